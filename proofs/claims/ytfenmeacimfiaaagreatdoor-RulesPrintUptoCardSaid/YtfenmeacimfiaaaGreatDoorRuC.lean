/-
 The texts Ru9, Ru10, Ru11, Ru12, in one.
-/
import Derived.Test.YtfenmeacimfiaaaGreatDoorRuB
import Derived.Test.YtfenmeacimfiaaaGreatDoorRuA
namespace Go.Proofs.YtfenmeacimfiaaaGreatDoor
open Go.RowKit Wh.G

theorem gpOf_same : ∀ (n m : Nat) (p : P n) (q : P m), SameP n m p q → gpOf n p = gpOf m q
 | 0, _, e, _, _ => nomatch e
 | _ + 1, 0, _, e, _ => nomatch e
 | n + 1, m + 1, (p : PartOf (P n)), (q : PartOf (P m)), h => by
  have hw : p.ways.xs.map (fun s => s.xs.map (gpOf n)) = q.ways.xs.map (fun s => s.xs.map (gpOf m)) := All2.map (fun a b hab => hab.map (gpOf_same n m)) h.2.2.2.2
  obtain ⟨h1, h2, h3, h4, _⟩ := h
  show (if p.kind = 1 then GP.text p.text.data.toList else if p.kind = 2 then .one else if p.kind = 3 then .star else if p.kind = 4 then .deep else if p.kind = 5 then .set p.neg p.rg.xs else .ways (p.ways.xs.map (fun s => s.xs.map (gpOf n)))) = (if q.kind = 1 then GP.text q.text.data.toList else if q.kind = 2 then .one else if q.kind = 3 then .star else if q.kind = 4 then .deep else if q.kind = 5 then .set q.neg q.rg.xs else .ways (q.ways.xs.map (fun s => s.xs.map (gpOf m))))
  rw [h1, h2, h3, h4, hw]
theorem prOf_iff {n m : Nat} {r : RuleOf n} {q : RuleOf m} (h1 : ∀ p ∈ r.parts.xs, Clean n p) (h2 : ∀ p ∈ q.parts.xs, Clean m p) : SameR r q ↔ prOf r = prOf q := by
 obtain ⟨a, b, c, s⟩ := r
 obtain ⟨a', b', c', t⟩ := q
 constructor
 ·rintro ⟨e1, e2, e3, e4⟩
  have g4 : gpL n s.xs = gpL m t.xs := e4.map (gpOf_same n m)
  have g1 : a = a' := e1
  have g2 : b = b' := e2
  have g3 : c = c' := e3
  clear e1 e2 e3 e4
  show (⟨a, b, c, gpL n s.xs⟩ : PRule) = ⟨a', b', c', gpL m t.xs⟩
  rw [g1, g2, g3, g4]
 ·intro h
  unfold prOf at h
  simp only [PRule.mk.injEq] at h
  exact ⟨h.1, h.2.1, h.2.2.1, gpL_same h1 h2 h.2.2.2⟩
theorem all2_prOf {n m : Nat} : ∀ {xs : List (RuleOf n)} {ys : List (RuleOf m)}, (∀ r ∈ xs, ∀ p ∈ r.parts.xs, Clean n p) → (∀ r ∈ ys, ∀ p ∈ r.parts.xs, Clean m p) → (All2 SameR xs ys ↔ xs.map prOf = ys.map prOf)
 | [], [], _, _ => ⟨fun _ => rfl, fun _ => .nil⟩
 | [], _ :: _, _, _ => ⟨fun h => (by cases h), fun h => (by cases h)⟩
 | _ :: _, [], _, _ => ⟨fun h => (by cases h), fun h => (by cases h)⟩
 | a :: l, b :: m, h1, h2 => by
  have hk := prOf_iff (h1 a (by simp)) (h2 b (by simp))
  have ih := all2_prOf (xs := l) (ys := m) (fun r hr => h1 r (by simp [hr])) (fun r hr => h2 r (by simp [hr]))
  rw [List.map_cons, List.map_cons]
  constructor
  ·intro h
   cases h with
   | cons h t => rw [hk.1 h, ih.1 t]
  ·intro h
   injection h with e1 e2
   exact .cons (hk.2 e1) (ih.2 e2)

def errR : RR → Int
 | .err _ e => e
 | .ok _ => 0
def posR : RR → Int
 | .err i _ => i
 | .ok _ => 0
def listR : RR → List PRule
 | .err _ _ => []
 | .ok l => l
theorem ruleR_ck {l : List UInt8} {p : PRule} (h : ruleR l = .inl p) : ckP p.rooted p.dirs p.parts = 0 := by
 match l, h with
 | [], h => cases h
 | [_], h => cases h
 | c :: d :: r, h =>
  have h : (if c ≠ 43 ∧ c ≠ 45 then Sum.inr 9 else if d ≠ 32 ∧ d ≠ 9 then .inr 9 else
   match pgR (Lib.trimLeftS (d :: r) [32, 9]) with
   | .err e => .inr e
   | .ok rt D l => .inl (⟨c == 43, rt, D, l⟩ : PRule)) = .inl p := h
  split at h
  ·cases h
  split at h
  ·cases h
  split at h
  ·cases h
  ·next hp =>
   injection h with h
   subst h
   unfold pgR at hp
   split at hp
   ·cases hp
   split at hp
   ·cases hp
   split at hp
   ·cases hp
   ·split at hp
    ·next hz =>
     injection hp with e1 e2 e3
     subst e1 e2 e3
     exact hz
    ·cases hp
theorem lineT_ck {l : List UInt8} {p : PRule} (h : lineT l = .rule p) : ckP p.rooted p.dirs p.parts = 0 := by
 match l, h with
 | [], h => cases h
 | c :: r, h =>
  have h : (if c = 35 ∨ c = 59 then LineR.skip else if c :: r = [33] then .reset else
   match ruleR (c :: r) with
   | .inr e => .err e
   | .inl p => .rule p) = .rule p := h
  split at h
  ·cases h
  split at h
  ·cases h
  split at h
  ·cases h
  ·next hp =>
   injection h with h
   subst h
   exact ruleR_ck hp
theorem rulesGo_ck : ∀ (ls : List (List UInt8)) (i : Nat) (acc l : List PRule), (∀ p ∈ acc, ckP p.rooted p.dirs p.parts = 0) → rulesGo i acc ls = .ok l → l.length ≤ 200 ∧ ∀ p ∈ l, ckP p.rooted p.dirs p.parts = 0
 | [], i, acc, l, ha, h => by
  have h : (if 200 < acc.length then RR.err 0 8 else .ok acc) = .ok l := h
  split at h
  ·cases h
  ·injection h with h
   subst h
   exact ⟨by omega, ha⟩
 | x :: ls, i, acc, l, ha, h => by
  rw [rulesGo_cons] at h
  split at h
  ·exact rulesGo_ck ls _ _ l ha h
  ·exact rulesGo_ck ls _ _ l (fun p hp => by cases hp) h
  ·cases h
  ·next hp =>
   refine rulesGo_ck ls _ _ l (fun p hq => ?_) h
   rcases List.mem_append.1 hq with hq | hq
   ·exact ha p hq
   ·rw [List.mem_singleton.1 hq]
    exact lineT_ck hp
theorem rulesR_ck {t : List UInt8} : (listR (rulesR t)).length ≤ 200 ∧ ∀ p ∈ listR (rulesR t), ckP p.rooted p.dirs p.parts = 0 := by
 cases h : rulesR t with
 | err i e => exact ⟨Nat.zero_le _, fun p hp => by cases hp⟩
 | ok l =>
  unfold rulesR at h
  split at h
  ·cases h
  ·exact rulesGo_ck _ _ _ l (fun p hp => by cases hp) h

/-- Rules that can be worked with. -/
structure BackR (n : Nat) (R : RR) (s : Sl (RuleOf n)) (W : World) : Prop where
 hold : SlHolds W 4 ruleCells s
 ok : ∀ r ∈ s.xs, SOk W n r.parts
 cl : ∀ r ∈ s.xs, ∀ q ∈ r.parts.xs, Clean n q
 ck : ∀ r ∈ s.xs, ckG r.rooted r.dirs n r.parts.xs = 0
 sz : ∀ r ∈ s.xs, szL n r.parts.xs ≤ 1048576
 len : s.xs.length ≤ 200
 map : s.xs.map prOf = listR R

theorem BackR.under {n : Nat} {R : RR} {s : Sl (RuleOf n)} {W W' : World} (h : BackR n R s W) (hb : Below W.heap.size W W') : BackR n R s W' :=
 ⟨h.hold.under hb, fun r hr => (h.ok r hr).under hb, h.cl, h.ck, h.sz, h.len, h.map⟩
theorem back_of {n z : Nat} {t : List UInt8} {v : Value} {w' : World} (h : RsPost n z (rulesR t) v w') : ((∃ l, rulesR t = .ok l) ∨ errR (rulesR t) ≠ 0) ∧
  ∃ s : Sl (RuleOf n), v = .tuple #[.slice s.a s.xs.length s.c, .int .i64 (posR (rulesR t)), .int .i64 (errR (rulesR t))] ∧ BackR n (rulesR t) s w' := by
 have hk := rulesR_ck (t := t)
 generalize rulesR t = R at *
 cases R with
 | err i e =>
  obtain ⟨h1, h2⟩ := h
  exact ⟨.inr h1, ⟨none, 0, []⟩, h2, ⟨⟨.inl rfl, Nat.le_refl _, Nat.zero_le _⟩, fun r hr => (by cases hr), fun r hr => (by cases hr), fun r hr => (by cases hr), fun r hr => (by cases hr), Nat.zero_le _, rfl⟩⟩
 | ok l =>
  obtain ⟨a, cap, rs, rfl, hat, hm, hz⟩ := h
  have hcl : ∀ r ∈ rs, ∀ q ∈ r.parts.xs, Clean n q := fun r hr => (hat.made r hr).cl
  refine ⟨.inl ⟨l, rfl⟩, ⟨a, cap, rs⟩, rfl, ⟨⟨hat.own.holds ruleCells_len, hat.own.cap⟩, fun r hr => (hat.made r hr).ok, hcl, fun r hr => ?_, fun r hr => Nat.le_trans (hz r hr) (by decide), ?_, hm⟩⟩
  ·have := hk.2 (prOf r) (by show _ ∈ l; rw [← hm]; exact List.mem_map_of_mem hr)
   rw [← ckP_eq (hcl r hr)]
   exact this
  ·have := hk.1
   have h2 : (rs.map prOf).length = l.length := by rw [hm]
   rw [List.length_map] at h2
   show rs.length ≤ 200
   have h3 : l.length ≤ 200 := this
   omega

/-- A rule's line. -/
def ruTxt {n : Nat} (r : RuleOf n) : List UInt8 := (if r.inc then [43, 32] else [45, 32]) ++ gtxtN r.rooted r.dirs n r.parts.xs ++ [10]
def rusTxt {n : Nat} (xs : List (RuleOf n)) : List UInt8 := xs.flatMap ruTxt
theorem rulesErr_zero {D : Nat} {xs : List (RuleOf D)} (h : rulesErr xs = 0) : xs.length ≤ 200 ∧ ∀ r ∈ xs, ckG r.rooted r.dirs D r.parts.xs = 0 := by
 unfold rulesErr at h
 split at h
 ·exact absurd h (by decide)
 ·refine ⟨by omega, ?_⟩
  have key : ∀ (ys : List (RuleOf D)), firstErr (ys.map ckR) = 0 → ∀ r ∈ ys, ckR r = 0 := by
   intro ys
   induction ys with
   | nil => intro _ r hr; cases hr
   | cons y ys ih =>
    intro h r hr
    rw [List.map_cons] at h
    unfold firstErr at h
    split at h
    ·next hz =>
     rcases List.mem_cons.1 hr with rfl | hr
     ·exact hz
     ·exact ih h r hr
    ·next hz => exact absurd h hz
  exact key xs h
theorem rusTxt_len {D : Nat} : ∀ {xs : List (RuleOf D)}, (∀ r ∈ xs, ckG r.rooted r.dirs D r.parts.xs = 0) → (rusTxt xs).length ≤ 203 * xs.length
 | [], _ => Nat.zero_le _
 | r :: xs, h => by
  have ih := rusTxt_len (xs := xs) (fun q hq => h q (by simp [hq]))
  have h1 := (ckG_rt (h r (by simp))).2.2.1
  unfold rusTxt at ih ⊢
  rw [List.flatMap_cons, List.length_append, List.length_cons]
  have : (ruTxt r).length ≤ 203 := by
   unfold ruTxt
   rw [List.length_append, List.length_append]
   have : (if r.inc then [43, 32] else [45, 32] : List UInt8).length = 2 := by cases r.inc <;> rfl
   rw [this]
   show 2 + _ + 1 ≤ 203
   omega
  omega
open Classical in
/-- What PrintRules says. -/
noncomputable def prtR {D : Nat} (xs : List (RuleOf D)) : List UInt8 × Int :=
 if rulesErr xs ≠ 0 then ([], rulesErr xs) else if rulesR (rusTxt xs) = .ok (xs.map prOf) then (rusTxt xs, 0) else ([], 6)
theorem back_same {n D : Nat} {t : List UInt8} {s : Sl (RuleOf n)} {W : World} {xs : List (RuleOf D)} (h : BackR n (rulesR t) s W) (hx : ∀ r ∈ xs, ckG r.rooted r.dirs D r.parts.xs = 0) (h0 : errR (rulesR t) = 0) (hv : (∃ l, rulesR t = .ok l) ∨ errR (rulesR t) ≠ 0) :
  (All2 SameR s.xs xs ↔ rulesR t = .ok (xs.map prOf)) ∧ (All2 SameR xs s.xs ↔ rulesR t = .ok (xs.map prOf)) := by
 have hcl : ∀ r ∈ xs, ∀ p ∈ r.parts.xs, Clean D p := fun r hr => (ckG_rt (hx r hr)).1
 rw [all2_prOf h.cl hcl, all2_prOf hcl h.cl, h.map]
 generalize rulesR t = R at *
 cases R with
 | err i e =>
  rcases hv with ⟨l, hv⟩ | hv
  ·cases hv
  ·exact absurd h0 hv
 | ok l =>
  constructor
  ·constructor
   ·intro h
    rw [← h]
    rfl
   ·intro h
    injection h
  ·constructor
   ·intro h
    rw [h]
    rfl
   ·intro h
    injection h with h
    exact h.symm
end Go.Proofs.YtfenmeacimfiaaaGreatDoor
namespace Go.Proofs.YtfenmeacimfiaaaGreatDoor
open Go.RowKit Wh.G

theorem parseBack (T : ByteArray) (w : World) (hs : T.size ≤ maxLen) (hE : Env w) :
  Calls Tryz.prog 18 #[.string T] w fun e w' => ∃ s : Sl (RuleOf (T.size + 1)), e = .returned (.tuple #[.slice s.a s.xs.length s.c, .int .i64 (posR (rulesR T.data.toList)), .int .i64 (errR (rulesR T.data.toList))]) ∧ Below w.heap.size w w' ∧ BackR (T.size + 1) (rulesR T.data.toList) s w' ∧ ((∃ l, rulesR T.data.toList = .ok l) ∨ errR (rulesR T.data.toList) ≠ 0) := by
 refine (parseRules_any (T.size + 1) T w hs (Nat.lt_succ_self _) hE).mono ?_
 rintro e w' ⟨v, rfl, hb, hp⟩
 obtain ⟨h1, s, rfl, h2⟩ := back_of hp
 exact ⟨s, rfl, hb, h2, h1⟩
theorem refParseBack (T : ByteArray) (w : World) (hs : T.size ≤ maxLen) (hE : Env w) :
  Calls Tryz.prog 19 #[.string T] w fun e w' => ∃ s : Sl (RuleOf (T.size + 1)), e = .returned (.tuple #[.slice s.a s.xs.length s.c, .int .i64 (posR (rulesR T.data.toList)), .int .i64 (errR (rulesR T.data.toList))]) ∧ Below w.heap.size w w' ∧ BackR (T.size + 1) (rulesR T.data.toList) s w' ∧ ((∃ l, rulesR T.data.toList = .ok l) ∨ errR (rulesR T.data.toList) ≠ 0) := by
 refine (refParseRules_any (T.size + 1) T w hs (Nat.lt_succ_self _) hE).mono ?_
 rintro e w' ⟨v, rfl, hb, hp⟩
 obtain ⟨h1, s, rfl, h2⟩ := back_of hp
 exact ⟨s, rfl, hb, h2, h1⟩

theorem prt_back {n D : Nat} {xs : List (RuleOf D)} {s : Sl (RuleOf n)} {W : World} (h0 : rulesErr xs = 0) (hb : BackR n (rulesR (rusTxt xs)) s W) (hv : (∃ l, rulesR (rusTxt xs) = .ok l) ∨ errR (rulesR (rusTxt xs)) ≠ 0) :
  (errR (rulesR (rusTxt xs)) = 0 → dq (All2 SameR s.xs xs) = true → prtR xs = (rusTxt xs, 0)) ∧ (errR (rulesR (rusTxt xs)) = 0 → dq (All2 SameR s.xs xs) = false → prtR xs = ([], 6)) ∧ (errR (rulesR (rusTxt xs)) ≠ 0 → prtR xs = ([], 6)) := by
 have hz := (rulesErr_zero h0).2
 unfold prtR
 rw [if_neg (by simp [h0])]
 refine ⟨fun h1 h2 => ?_, fun h1 h2 => ?_, fun h1 => ?_⟩
 ·refine if_pos ((back_same hb hz h1 hv).1.1 ?_)
  by_cases h : All2 SameR s.xs xs
  ·exact h
  ·rw [dq_f h] at h2
   cases h2
 ·refine if_neg (fun h => ?_)
  rw [dq_t ((back_same hb hz h1 hv).1.2 h)] at h2
  cases h2
 ·refine if_neg (fun h => ?_)
  rw [h] at h1
  exact h1 rfl
theorem rusTxt_snoc {D : Nat} {xs : List (RuleOf D)} {k : Nat} {r : RuleOf D} (h : xs[k]? = some r) : rusTxt (xs.take (k + 1)) = rusTxt (xs.take k) ++ ruTxt r := by
 rw [List.take_add_one, h]
 simp [rusTxt]
theorem line_data (inc : Bool) (T : List UInt8) : ((if inc then (⟨#[43, 32]⟩ : ByteArray) else ⟨#[45, 32]⟩) ++ ⟨T.toArray⟩ ++ ⟨#[10]⟩ : ByteArray).data.toList = (if inc then [43, 32] else [45, 32]) ++ T ++ [10] := by
 cases inc <;> simp [ByteArray.data_append]
theorem line_size (inc : Bool) (T : List UInt8) : ((if inc then (⟨#[43, 32]⟩ : ByteArray) else ⟨#[45, 32]⟩) ++ ⟨T.toArray⟩ ++ ⟨#[10]⟩ : ByteArray).size = T.length + 3 := by
 rw [Lib.size_eq, line_data]
 cases inc <;> simp [List.length_append] <;> omega

set_option maxHeartbeats 4000000 in
set_option maxRecDepth 100000 in
theorem printRules_any {D : Nat} (s : Sl (RuleOf D)) (w : World) (hs : RulesOk2 w D s) (hE : Env w) :
  Calls Tryz.prog 20 #[.slice s.a s.xs.length s.c] w fun e w' => e = .returned (.tuple #[.string ⟨(prtR s.xs).1.toArray⟩, .int .i64 (prtR s.xs).2]) ∧ Below w.heap.size w w' := by
 have hlen := hs.len
 have HC := Lib.hid (checkRules2_any s w hs)
 by_cases h0 : rulesErr s.xs = 0
 rotate_left 1
 ·have HK : prtR s.xs = ([], rulesErr s.xs) := by
   unfold prtR
   rw [if_pos h0]
  rw [HK]
  clear HK hs
  generalize rulesErr s.xs = K at *
  have hK : (K != 0) = true := by simp [h0]
  generalize s.xs.length = N at *
  go_enter Tryz.func20, Tryz.ntmps20
  go_wp2_with (go_at_call 63; refine HC.out.mono ?_; rintro e w2 ⟨rfl, hb2⟩)
  go_ret2
  exact ⟨rfl, hb2⟩
 rw [h0] at HC
 have HS := Lib.hid hs
 have HEn := Lib.hid hE
 clear hs hE
 have HZ := Lib.hid (rulesErr_zero h0)
 have HPr := Lib.hid (fun (n : Nat) (s2 : Sl (RuleOf n)) (W : World) => prt_back (s := s2) (W := W) h0)
 obtain ⟨PR, hPR⟩ : ∃ x, prtR s.xs = x := ⟨_, rfl⟩
 rw [hPR] at HPr ⊢
 clear hPR h0
 obtain ⟨sa, sc, xs⟩ := s
 simp only [] at hlen HPr HZ HC ⊢
 go_enter Tryz.func20, Tryz.ntmps20
 go_upto_region 4 with (go_at_call 63; refine HC.out.mono ?_; rintro e w2 ⟨rfl, hb2⟩; have HB2 := Lib.hid hb2; clear hb2)
 clear HC
 have HBd := Lib.hid (Bld.fresh w2)
 go_upto_region 5 with fail
 generalize w2.alloc _ = w3 at *
 obtain ⟨b, hb⟩ : ∃ b, b = w2.heap.size := ⟨_, rfl⟩
 rw [← hb] at HBd ⊢
 clear hb
 have HBd0 : Hid (Bld w2 b (rusTxt (xs.take 0)) w3) := HBd
 clear HBd
 go_wp2_with fail
 go_loopg [20] xs.length (fun g i wx => ∃ k : Nat, k + g = xs.length ∧ i = .int .i64 k ∧ Hid (Bld w2 b (rusTxt (xs.take k)) wx))
 case atStart => exact ⟨0, by omega, rfl, HBd0⟩
 case round =>
  clear HBd0
  obtain ⟨k, hk, rfl, HBk⟩ := hrel
  by_cases hlt : k < xs.length
  ·obtain ⟨g, rfl⟩ : ∃ g, gk = g + 1 := ⟨gk - 1, by omega⟩
   obtain ⟨r, hx⟩ : ∃ r, xs[k]? = some r := ⟨_, List.getElem?_eq_getElem hlt⟩
   have hbw : Below w.heap.size w wr := bTrans HB2.out HBk.out.below
   obtain ⟨ba, off, ha, hba, r0, r1, r2, r3⟩ := ruleRow ((HS.out.under hbw).1) hx
   have hmem := List.mem_of_getElem? hx
   have hck := HZ.out.2 r hmem
   have hbx := bAlloc (Below.refl wr.heap.size wr) (.cells (ruleArr r) 47)
   have HX := Lib.hid (BoxIs.new wr (ruleArr r) 47)
   have HT := Lib.hid (text_of D r.parts r.rooted r.dirs _ ((HS.out.under (bTrans hbw hbx)).2.1 r hmem) (HS.out.sz hmem) hck).1
   have HBk2 := Lib.hid (HBk.out.under hbx)
   have HTl : Hid (rusTxt (xs.take (k + 1)) = rusTxt (xs.take k) ++ ruTxt r) := Lib.hid (rusTxt_snoc hx)
   have hLl : (rusTxt (xs.take k)).length ≤ 40600 := by
    have h1 := rusTxt_len (xs := xs.take k) (fun q hq => HZ.out.2 q (List.mem_of_mem_take hq))
    have h2 := HZ.out.1
    rw [List.length_take] at h1
    omega
   have hgl := (ckG_rt hck).2.2.1
   clear hck hx hmem hbw HBk hbx
   unfold ruTxt at HTl
   obtain ⟨inc, rooted, dirs, ⟨pa, pc, px⟩⟩ := r
   simp only [] at ha r0 r1 r2 r3 HTl hgl
   have HT : Hid (Calls Tryz.prog 55 #[.agg #[.bool rooted, .bool dirs, .slice pa px.length pc]] (wr.alloc (.cells #[.bool inc, .bool rooted, .bool dirs, .slice pa px.length pc] 47)) fun e w' => e = .returned (.string ⟨(gtxtN rooted dirs D px).toArray⟩) ∧ Below (wr.alloc (.cells #[.bool inc, .bool rooted, .bool dirs, .slice pa px.length pc] 47)).heap.size (wr.alloc (.cells #[.bool inc, .bool rooted, .bool dirs, .slice pa px.length pc] 47)) w') := Lib.hid HT.out
   generalize gtxtN rooted dirs D px = T at *
   have HLd := Lib.hid (line_data inc T)
   have hLz := line_size inc T
   subst ha
   go_upto_region 8 with fail
   generalize wr.alloc _ = w5 at *
   obtain ⟨b0, b1, b2, b3⟩ : _ ∧ _ ∧ _ ∧ _ := ⟨HX.out.cell (j := 0) rfl, HX.out.cell (j := 1) rfl, HX.out.cell (j := 2) rfl, HX.out.cell (j := 3) rfl⟩
   clear r0 r1 r2 r3
   cases inc
   all_goals
    simp only [reduceIte, Bool.false_eq_true] at HLd hLz HTl
    go_wp2_with fail
    refine HT.out.mono ?_
    rintro e w6 ⟨rfl, hb6⟩
    have HBk6 := Lib.hid (HBk2.out.under hb6)
    clear b0 b1 b2 b3 hb6 HT
    go_wp2_with fail
    refine (writeString_any _ HBk6.out (by omega)).mono ?_
    rintro e w7 ⟨rfl, hB7, hK7⟩
    rw [HLd.out, ← HTl.out] at hB7
    have HB7 := Lib.hid hB7
    clear hB7 hK7
    go_wp2_with fail
    go_roundg g
    case measure => omega
    case rel => exact ⟨k + 1, by omega, by go_num, HB7⟩
  ·have HB9 : Hid (Bld w2 b (rusTxt xs) wr) := Lib.hid (by
    have := HBk.out
    rw [List.take_of_length_le (by omega)] at this
    exact this)
   clear HBk
   have hTl : (rusTxt xs).length ≤ 40600 := by
    have h1 := rusTxt_len (xs := xs) HZ.out.2
    have h2 := HZ.out.1
    omega
   have HTx : Hid ((⟨(rusTxt xs).toArray⟩ : ByteArray).data.toList = rusTxt xs) := Lib.hid (by simp)
   have hTz : (⟨(rusTxt xs).toArray⟩ : ByteArray).size ≤ maxLen := by
    rw [Lib.size_eq, HTx.out]
    exact Nat.le_trans hTl (by decide)
   have HD := Lib.hid (fun (W : World) (h : Bld w2 b (rusTxt xs) W) => buildString_any h)
   have HPs := Lib.hid (fun W (h : Below w.heap.size w W) => parseBack ⟨(rusTxt xs).toArray⟩ W hTz (HEn.out.under h))
   rw [HTx.out] at HPs
   generalize hRv : rulesR (rusTxt xs) = Rv at HPs HPr
   clear hTl HTx hTz hRv
   generalize rusTxt xs = TX at *
   go_wp2_with fail
   refine (HD.out _ HB9.out).mono ?_
   rintro e w8 ⟨rfl, hB8⟩
   have HB8 := Lib.hid hB8
   have HBw8 := Lib.hid (bTrans HB2.out hB8.below)
   clear HB9 hB8
   go_wp2_with fail
   refine (HPs.out w8 HBw8.out).mono ?_
   rintro e w9 ⟨s2, rfl, hb9, hbk, hv⟩
   have HBw9 := Lib.hid (bTrans HBw8.out hb9)
   have HB9 := Lib.hid (HB8.out.under hb9)
   have HEq := Lib.hid (equalRulesP s2 ⟨sa, sc, xs⟩ w9 hbk.hold (HS.out.under HBw9.out).1 (fun p q hp hq W hb => pr1_any p q W ((hbk.ok p hp).under hb) (((HS.out.under HBw9.out).2.1 q hq).under hb) (hbk.sz p hp) (HS.out.sz hq) (hbk.ck p hp) (HZ.out.2 q hq)))
   have HRes := Lib.hid (HPr.out _ _ _ hbk hv)
   clear HBw8 HB8 hb9 hbk hv HPr HPs
   unfold DecP at HEq
   obtain ⟨s2a, s2c, ys⟩ := s2
   simp only [] at HEq HRes
   generalize dq (All2 SameR ys xs) = Q at *
   generalize ys.length = M at *
   generalize errR Rv = E at *
   by_cases hE0 : E = 0
   ·subst hE0
    cases Q
    ·have hR : PR = ([], 6) := HRes.out.2.1 rfl rfl
     subst hR
     clear HRes
     go_wp2_with (go_at_call 66; refine HEq.out.mono ?_; rintro e w10 ⟨rfl, hb10⟩)
     go_ret2
     exact ⟨rfl, bTrans HBw9.out hb10⟩
    ·have hR : PR = (TX, 0) := HRes.out.1 rfl rfl
     subst hR
     clear HRes
     go_wp2_with (go_at_call 66; refine HEq.out.mono ?_; rintro e w10 ⟨rfl, hb10⟩; have HB10 := Lib.hid (HB9.out.under hb10); clear hb10)
     refine (HD.out _ HB10.out).mono ?_
     rintro e w11 ⟨rfl, hB11⟩
     go_wp2_with fail
     go_ret2
     exact ⟨rfl, bTrans HB2.out hB11.below⟩
   ·have hR : PR = ([], 6) := HRes.out.2.2 hE0
    subst hR
    clear HRes
    have hE' : (E != 0) = true := by simp [hE0]
    go_wp2_with (go_at_call 66; refine HEq.out.mono ?_; rintro e w10 ⟨rfl, hb10⟩)
    go_ret2
    exact ⟨rfl, bTrans HBw9.out hb10⟩
end Go.Proofs.YtfenmeacimfiaaaGreatDoor
namespace Go.Proofs.YtfenmeacimfiaaaGreatDoor
open Go.RowKit Wh.G

theorem prt_back2 {n D : Nat} {xs : List (RuleOf D)} {s : Sl (RuleOf n)} {W : World} (h0 : rulesErr xs = 0) (hb : BackR n (rulesR (rusTxt xs)) s W) (hv : (∃ l, rulesR (rusTxt xs) = .ok l) ∨ errR (rulesR (rusTxt xs)) ≠ 0) :
  (errR (rulesR (rusTxt xs)) = 0 → dq (All2 SameR xs s.xs) = true → prtR xs = (rusTxt xs, 0)) ∧ (errR (rulesR (rusTxt xs)) = 0 → dq (All2 SameR xs s.xs) = false → prtR xs = ([], 6)) ∧ (errR (rulesR (rusTxt xs)) ≠ 0 → prtR xs = ([], 6)) := by
 have hz := (rulesErr_zero h0).2
 have h1 := prt_back h0 hb hv
 have h2 : errR (rulesR (rusTxt xs)) = 0 → dq (All2 SameR xs s.xs) = dq (All2 SameR s.xs xs) := fun he => by
  have hk := back_same hb hz he hv
  exact dq_iff (hk.2.trans hk.1.symm)
 exact ⟨fun he h => h1.1 he (by rw [← h2 he]; exact h), fun he h => h1.2.1 he (by rw [← h2 he]; exact h), h1.2.2⟩
theorem line_cat (inc : Bool) (A T : List UInt8) : ((⟨A.toArray⟩ : ByteArray) ++ ((if inc then (⟨#[43, 32]⟩ : ByteArray) else ⟨#[45, 32]⟩) ++ ⟨T.toArray⟩ ++ ⟨#[10]⟩)) = ⟨(A ++ ((if inc then [43, 32] else [45, 32]) ++ T ++ [10])).toArray⟩ := by
 apply bytes_ext
 rw [ByteArray.data_append, Array.toList_append, line_data]

set_option maxHeartbeats 4000000 in
set_option maxRecDepth 100000 in
theorem rulesPrint_walk {D : Nat} (s : Sl (RuleOf D)) (w : World) (hE : Env w) (hs : RulesOk2 w D s) :
  Calls Tryz.prog 7 #[.slice s.a s.xs.length s.c] w (TrueP w) := by
 have hlen := hs.len
 have HS := Lib.hid hs
 have HEn := Lib.hid hE
 have HL := Lib.hid (landed_any w hE)
 have HP := Lib.hid (fun W (hb : Below w.heap.size w W) => printRules_any s W (hs.under hb) (hE.under hb))
 clear hs hE
 obtain ⟨E, hEr⟩ : ∃ x, rulesErr s.xs = x := ⟨_, rfl⟩
 have HA : Hid (E ≠ 0 → (⟨(prtR s.xs).1.toArray⟩ : ByteArray) = ⟨#[]⟩ ∧ (prtR s.xs).2 = E) := Lib.hid (fun h => by
  unfold prtR
  rw [if_pos (by rw [hEr]; exact h), hEr]
  exact ⟨rfl, rfl⟩)
 have HK : Hid (E = if 200 < s.xs.length then 8 else firstErr (s.xs.map ckR)) := Lib.hid hEr.symm
 have HBk := Lib.hid (fun (n : Nat) (t : Sl (RuleOf n)) (W : World) (h0 : E = 0) (hb : BackR n (rulesR (rusTxt s.xs)) t W) (hv : (∃ l, rulesR (rusTxt s.xs) = .ok l) ∨ errR (rulesR (rusTxt s.xs)) ≠ 0) => (show (errR (rulesR (rusTxt s.xs)) = 0 → dq (All2 SameR s.xs t.xs) = true → (⟨(prtR s.xs).1.toArray⟩ : ByteArray) = ⟨(rusTxt s.xs).toArray⟩ ∧ (prtR s.xs).2 = 0) ∧ (errR (rulesR (rusTxt s.xs)) = 0 → dq (All2 SameR s.xs t.xs) = false → (⟨(prtR s.xs).1.toArray⟩ : ByteArray) = ⟨#[]⟩ ∧ (prtR s.xs).2 = 6) ∧ (errR (rulesR (rusTxt s.xs)) ≠ 0 → (⟨(prtR s.xs).1.toArray⟩ : ByteArray) = ⟨#[]⟩ ∧ (prtR s.xs).2 = 6) from by
  have h := prt_back2 (hEr.trans h0) hb hv
  refine ⟨fun h1 h2 => ?_, fun h1 h2 => ?_, fun h1 => ?_⟩
  ·rw [h.1 h1 h2]
   exact ⟨rfl, rfl⟩
  ·rw [h.2.1 h1 h2]
   exact ⟨rfl, rfl⟩
  ·rw [h.2.2 h1]
   exact ⟨rfl, rfl⟩))
 have HZ : Hid (E = 0 → ∀ r ∈ s.xs, ckG r.rooted r.dirs D r.parts.xs = 0) := Lib.hid (fun h => (rulesErr_zero (hEr.trans h)).2)
 clear hEr
 generalize (⟨(prtR s.xs).1.toArray⟩ : ByteArray) = S at *
 generalize (prtR s.xs).2 = e0 at *
 obtain ⟨sa, sc, xs⟩ := s
 simp only [] at hlen HA HK HBk HZ HP ⊢
 go_enter Tryz.func7, Tryz.ntmps7
 go_upto_region 3 with (go_at_call 8; refine HL.out.mono ?_; rintro e w1 ⟨rfl, hb1⟩; have HB1 := Lib.hid hb1; clear hb1)
 go_upto_region 4 with (go_at_call 20; refine (HP.out _ HB1.out).mono ?_; rintro e w2 ⟨rfl, hb2⟩; have HB2 := Lib.hid (bTrans HB1.out hb2); clear hb2)
 clear HP HL HB1
 by_cases h200 : 200 < xs.length
 ·have hEE : E = 8 := HK.out.trans (if_pos h200)
  subst hEE
  obtain ⟨e1, e2⟩ := HA.out (by decide)
  subst e1 e2
  go_wp2_with fail
  go_ret
  exact ⟨rfl, HB2.out⟩
 have HK0 : Hid (E = firstErr ((xs.map ckR).drop 0)) := Lib.hid (HK.out.trans (if_neg h200))
 clear HK
 have H0 : (⟨#[]⟩ : ByteArray) = ⟨(rusTxt (xs.take 0)).toArray⟩ := rfl
 go_wp2_with fail
 go_loopg [5, 32] xs.length (fun g s5 i wx => ∃ k : Nat, k + g = xs.length ∧ s5 = .string ⟨(rusTxt (xs.take k)).toArray⟩ ∧ i = .int .i64 k ∧ Hid (Below w.heap.size w wx) ∧ Hid (E = firstErr ((xs.map ckR).drop k)) ∧ (rusTxt (xs.take k)).length ≤ 203 * k)
 case atStart => exact ⟨0, by omega, rfl, rfl, HB2, HK0, Nat.zero_le _⟩
 case round =>
  clear HK0 HB2 H0
  obtain ⟨k, hk, rfl, rfl, HBw, HK, hAl⟩ := hrel
  by_cases hlt : k < xs.length
  ·obtain ⟨g, rfl⟩ : ∃ g, gk = g + 1 := ⟨gk - 1, by omega⟩
   obtain ⟨r, hx⟩ : ∃ r, xs[k]? = some r := ⟨_, List.getElem?_eq_getElem hlt⟩
   obtain ⟨ba, off, ha, hba, r0, r1, r2, r3⟩ := ruleRow ((HS.out.under HBw.out).1) hx
   have hmem := List.mem_of_getElem? hx
   have hbx := bAlloc (Below.refl wr.heap.size wr) (.cells (ruleArr r) 47)
   have HX := Lib.hid (BoxIs.new wr (ruleArr r) 47)
   have HT := Lib.hid (refPrintGlob_any D r.parts r.rooted r.dirs _ ((HS.out.under (bTrans HBw.out hbx)).2.1 r hmem) (HS.out.sz hmem))
   have HBw5 := Lib.hid (bTrans HBw.out hbx)
   have HTl : Hid (rusTxt (xs.take (k + 1)) = rusTxt (xs.take k) ++ ruTxt r) := Lib.hid (rusTxt_snoc hx)
   rw [firstErr_step (e := ckR r) (by rw [List.getElem?_map, hx]; rfl)] at HK
   unfold ruTxt at HTl
   obtain ⟨inc, rooted, dirs, ⟨pa, pc, px⟩⟩ := r
   simp only [] at ha r0 r1 r2 r3 HTl
   have HT : Hid (Calls Tryz.prog 17 #[.agg #[.bool rooted, .bool dirs, .slice pa px.length pc]] (wr.alloc (.cells #[.bool inc, .bool rooted, .bool dirs, .slice pa px.length pc] 47)) fun e w' => e = .returned (.tuple #[.string (prS rooted dirs D px), .int .i64 (ckG rooted dirs D px)]) ∧ Below (wr.alloc (.cells #[.bool inc, .bool rooted, .bool dirs, .slice pa px.length pc] 47)).heap.size (wr.alloc (.cells #[.bool inc, .bool rooted, .bool dirs, .slice pa px.length pc] 47)) w') := Lib.hid HT.out
   have HK : Hid (E = if ckG rooted dirs D px = 0 then firstErr ((xs.map ckR).drop (k + 1)) else ckG rooted dirs D px) := HK
   have HPs : Hid (ckG rooted dirs D px = 0 → prS rooted dirs D px = ⟨(gtxtN rooted dirs D px).toArray⟩) := Lib.hid (fun h => by unfold prS; rw [if_pos h])
   have HTz : Hid (ckG rooted dirs D px = 0 → (gtxtN rooted dirs D px).length ≤ 200) := Lib.hid (fun h => (ckG_rt h).2.2.1)
   generalize prS rooted dirs D px = PS at *
   generalize ckG rooted dirs D px = C at *
   generalize gtxtN rooted dirs D px = T at *
   generalize rusTxt (xs.take k) = A at *
   have HLc := Lib.hid (line_cat inc A T)
   clear hx hmem hbx HBw
   subst ha
   go_upto_region 10 with fail
   generalize wr.alloc _ = w5 at *
   obtain ⟨b0, b1, b2, b3⟩ : _ ∧ _ ∧ _ ∧ _ := ⟨HX.out.cell (j := 0) rfl, HX.out.cell (j := 1) rfl, HX.out.cell (j := 2) rfl, HX.out.cell (j := 3) rfl⟩
   clear r0 r1 r2 r3
   go_upto_region 11 with (go_at_call 17; refine HT.out.mono ?_; rintro e w6 ⟨rfl, hb6⟩; have HX6 := Lib.hid (HX.out.under hb6); have HBw6 := Lib.hid (bTrans HBw5.out hb6); clear hb6 b0 b1 b2 b3)
   obtain ⟨b0, b1, b2, b3⟩ : _ ∧ _ ∧ _ ∧ _ := ⟨HX6.out.cell (j := 0) rfl, HX6.out.cell (j := 1) rfl, HX6.out.cell (j := 2) rfl, HX6.out.cell (j := 3) rfl⟩
   by_cases hC : C = 0
   ·subst hC
    have hPS := HPs.out rfl
    subst hPS
    have HK1 := Lib.hid (HK.out.trans (if_pos rfl))
    have hTz := HTz.out rfl
    cases inc
    all_goals
     simp only [reduceIte, Bool.false_eq_true] at HLc HTl
     rw [← HTl.out] at HLc
     have hA2 : (rusTxt (xs.take (k + 1))).length ≤ 203 * (k + 1) := by
      rw [HTl.out, List.length_append, List.length_append, List.length_append]
      simp only [List.length_cons, List.length_nil]
      omega
     go_wp2_with fail
     go_roundg g
     case measure => omega
     case rel => exact ⟨k + 1, by omega, by rw [← HLc.out], by go_num, HBw6, HK1, hA2⟩
   ·have hEE : E = C := HK.out.trans (if_neg hC)
    obtain ⟨e1, e2⟩ := HA.out (by rw [hEE]; exact hC)
    subst e1 e2
    subst hEE
    have hC' : (e0 != 0) = true := by simp [hC]
    go_wp2_with fail
    go_ret
    exact ⟨rfl, HBw6.out⟩
  ·have hE0 : E = 0 := by
    rw [HK.out, List.drop_of_length_le (by simp; omega)]
    rfl
   rw [List.take_of_length_le (by omega)]
   have hTl : (rusTxt xs).length ≤ 40600 := by
    have h1 := rusTxt_len (xs := xs) (HZ.out hE0)
    omega
   have HTx : Hid ((⟨(rusTxt xs).toArray⟩ : ByteArray).data.toList = rusTxt xs) := Lib.hid (by simp)
   have hTz : (⟨(rusTxt xs).toArray⟩ : ByteArray).size ≤ maxLen := by
    rw [Lib.size_eq, HTx.out]
    exact Nat.le_trans hTl (by decide)
   have HRp := Lib.hid (refParseBack ⟨(rusTxt xs).toArray⟩ wr hTz (HEn.out.under HBw.out))
   rw [HTx.out] at HRp
   generalize hRv : rulesR (rusTxt xs) = Rv at HRp HBk
   clear hTl HTx hTz hRv
   generalize (⟨(rusTxt xs).toArray⟩ : ByteArray) = TX at *
   go_upto_region 19 with (go_at_call 19; refine HRp.out.mono ?_; rintro e w9 ⟨s2, rfl, hb9, hbk, hv⟩; have HBw9 := Lib.hid (bTrans HBw.out hb9); have HAl := Lib.hid (alikeRules2 ⟨sa, sc, xs⟩ s2 w9 (HS.out.under HBw9.out).1 hbk.hold (HS.out.under HBw9.out).2.1 hbk.ok); have HRes := Lib.hid (HBk.out _ _ _ hE0 hbk hv); clear hb9 hbk hv HBk)
   unfold DecP at HAl
   obtain ⟨s2a, s2c, ys⟩ := s2
   simp only [] at HAl HRes
   generalize dq (All2 SameR xs ys) = Q at *
   generalize errR Rv = E2 at *
   generalize posR Rv = P2 at *
   by_cases hE2 : E2 = 0
   ·subst hE2
    cases Q
    ·obtain ⟨e1, e2⟩ := HRes.out.2.1 rfl rfl
     subst e1 e2
     clear HRes HA
     go_wp2_with (go_at_call 11; refine HAl.out.mono ?_; rintro e w10 ⟨rfl, hb10⟩)
     go_ret
     exact ⟨rfl, bTrans HBw9.out hb10⟩
    ·obtain ⟨e1, e2⟩ := HRes.out.1 rfl rfl
     subst e1 e2
     clear HRes HA
     go_wp2_with (go_at_call 11; refine HAl.out.mono ?_; rintro e w10 ⟨rfl, hb10⟩)
     go_ret
     exact ⟨rfl, bTrans HBw9.out hb10⟩
   ·obtain ⟨e1, e2⟩ := HRes.out.2.2 hE2
    subst e1 e2
    clear HRes HA
    have hE' : (E2 != 0) = true := by simp [hE2]
    go_wp2_with fail
    go_ret
    exact ⟨rfl, HBw9.out⟩
end Go.Proofs.YtfenmeacimfiaaaGreatDoor
namespace Go.Proofs.YtfenmeacimfiaaaGreatDoor
open Go.RowKit Wh.G

theorem BackR.two {n : Nat} {R : RR} {s : Sl (RuleOf n)} {W : World} (h : BackR n R s W) : RulesOk2 W n s := ⟨h.hold, h.ok, Nat.le_trans h.len (by decide), h.sz⟩
theorem back_two {n m : Nat} {R : RR} {s : Sl (RuleOf n)} {t : Sl (RuleOf m)} {W1 W2 : World} (h1 : BackR n R s W1) (h2 : BackR m R t W2) : dq (All2 SameR s.xs t.xs) = true :=
 dq_t ((all2_prOf h1.cl h2.cl).2 (h1.map.trans h2.map.symm))

set_option maxHeartbeats 4000000 in
set_option maxRecDepth 100000 in
theorem rulesParse_walk (T : ByteArray) (w : World) (hs : T.size ≤ maxLen) (hE : Env w) :
  Calls Tryz.prog 6 #[.string T] w (TrueP w) := by
 have HEn := Lib.hid hE
 have HL := Lib.hid (landed_any w hE)
 have HP := Lib.hid (fun W (hb : Below w.heap.size w W) => parseBack T W hs (hE.under hb))
 have HR := Lib.hid (fun W (hb : Below w.heap.size w W) => refParseBack T W hs (hE.under hb))
 clear hs hE
 generalize rulesR T.data.toList = Rv at *
 generalize T.size + 1 = dep at *
 go_enter Tryz.func6, Tryz.ntmps6
 go_upto_region 3 with (go_at_call 8; refine HL.out.mono ?_; rintro e w1 ⟨rfl, hb1⟩; have HB1 := Lib.hid hb1; clear hb1)
 go_upto_region 4 with (go_at_call 18; refine (HP.out _ HB1.out).mono ?_; rintro e w2 ⟨s1, rfl, hb2, hk2, hv2⟩; have HB2 := Lib.hid (bTrans HB1.out hb2); have HK2 := Lib.hid hk2; clear hb2 hk2 hv2)
 go_upto_region 5 with (go_at_call 19; refine (HR.out _ HB2.out).mono ?_; rintro e w3 ⟨s2, rfl, hb3, hk3, hv3⟩; have HB3 := Lib.hid (bTrans HB2.out hb3); have HK3 := Lib.hid hk3; have HK23 := Lib.hid (HK2.out.under hb3); clear hb3 hk3 hv3)
 have HAl := Lib.hid (alikeRules2 s1 s2 w3 HK23.out.hold HK3.out.hold HK23.out.ok HK3.out.ok)
 have HQ := back_two HK23.out HK3.out
 unfold DecP at HAl
 rw [HQ] at HAl
 clear HQ
 have HPr := Lib.hid (fun W (hb : Below w3.heap.size w3 W) => rulesPrint_walk s1 W (HEn.out.under (bTrans HB3.out hb)) ((HK23.out.under hb).two))
 clear HK2 HK3 HK23 HP HR HL HB1 HB2
 obtain ⟨s1a, s1c, xs⟩ := s1
 obtain ⟨s2a, s2c, ys⟩ := s2
 simp only [] at HAl HPr
 generalize xs.length = N1 at *
 generalize ys.length = N2 at *
 generalize posR Rv = P at *
 generalize errR Rv = E at *
 go_upto_region 7 with (go_at_call 11; refine HAl.out.mono ?_; rintro e w4 ⟨rfl, hb4⟩; have HB4 := Lib.hid (bTrans HB3.out hb4); have HPr4 := Lib.hid (HPr.out _ hb4); clear hb4)
 by_cases hE0 : E = 0
 ·subst hE0
  go_wp2_with (go_at_call 7; refine HPr4.out.mono ?_; rintro e w5 ⟨rfl, hb5⟩)
  go_ret
  exact ⟨rfl, bTrans HB4.out hb5⟩
 ·have hE' : (E != 0) = true := by simp [hE0]
  go_wp2_with fail
  go_ret
  exact ⟨rfl, HB4.out⟩
end Go.Proofs.YtfenmeacimfiaaaGreatDoor
