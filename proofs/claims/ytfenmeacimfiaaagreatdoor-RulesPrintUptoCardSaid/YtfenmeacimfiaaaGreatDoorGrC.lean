/-
  The texts Gr16, Gr17, Gr18, Gr19, Gr20, Gr21, Gr22, Gr23, Gr24, Gr25, Gr26, in one.
-/
import Derived.Test.YtfenmeacimfiaaaGreatDoorGrB
import Derived.ChangeKeysEq
namespace Go.Proofs.YtfenmeacimfiaaaGreatDoor
open Go.RowKit

inductive All2 {α β : Type} (R : α → β → Prop) : List α → List β → Prop
  | nil : All2 R [] []
  | cons {a : α} {b : β} {l : List α} {m : List β} : R a b → All2 R l m → All2 R (a :: l) (b :: m)
theorem All2.map {α β γ : Type} {R : α → β → Prop} {f : α → γ} {g : β → γ} (hf : ∀ a b, R a b → f a = g b) : ∀ {l : List α} {m : List β}, All2 R l m → l.map f = m.map g
  | _, _, .nil => rfl
  | _, _, .cons h t => by
    rw [List.map_cons, List.map_cons, hf _ _ h, t.map hf]
theorem All2.length {α β : Type} {R : α → β → Prop} : ∀ {l : List α} {m : List β}, All2 R l m → l.length = m.length
  | _, _, .nil => rfl
  | _, _, .cons _ t => by rw [List.length_cons, List.length_cons, t.length]
theorem All2.last {α β : Type} {R : α → β → Prop} : ∀ {l : List α} {m : List β}, All2 R l m → (l = [] ∧ m = []) ∨ ∃ a b, l.getLast? = some a ∧ m.getLast? = some b ∧ R a b
  | _, _, .nil => .inl ⟨rfl, rfl⟩
  | a :: l, b :: m, .cons h t => by
    rcases t.last with ⟨rfl, rfl⟩ | ⟨a', b', h1, h2, h3⟩
    · exact .inr ⟨a, b, rfl, rfl, h⟩
    · refine .inr ⟨a', b', ?_, ?_, h3⟩
      · rw [List.getLast?_cons, h1]
        rfl
      · rw [List.getLast?_cons, h2]
        rfl
theorem All2.get {α β : Type} {R : α → β → Prop} : ∀ {l : List α} {m : List β}, All2 R l m → ∀ (k : Nat) (a : α) (b : β), l[k]? = some a → m[k]? = some b → R a b
  | _, _, .nil, k, a, b, h, _ => by cases h
  | _, _, .cons h t, 0, a, b, h1, h2 => by
    injection h1 with h1
    injection h2 with h2
    rw [← h1, ← h2]
    exact h
  | _, _, .cons h t, k + 1, a, b, h1, h2 => t.get k a b h1 h2

/-- They hold the same. -/
def SameP : (n m : Nat) → P n → P m → Prop
  | 0, _, _, _ => True
  | _ + 1, 0, _, _ => True
  | n + 1, m + 1, (p : PartOf (P n)), (q : PartOf (P m)) => p.kind = q.kind ∧ p.text = q.text ∧ p.neg = q.neg ∧ p.rg.xs = q.rg.xs ∧ All2 (fun (s : Sl (P n)) (t : Sl (P m)) => All2 (SameP n m) s.xs t.xs) p.ways.xs q.ways.xs
abbrev SameL (n m : Nat) (xs : List (P n)) (ys : List (P m)) : Prop := All2 (SameP n m) xs ys
theorem noP : ∀ (xs : List (P 0)), xs = []
  | [] => rfl
  | e :: _ => nomatch e
theorem SameL.zl {m : Nat} {xs : List (P 0)} {ys : List (P m)} (h : SameL 0 m xs ys) : ys = [] := by
  have := noP xs
  subst this
  cases h
  rfl
theorem SameL.zr {n : Nat} {xs : List (P n)} {ys : List (P 0)} (h : SameL n 0 xs ys) : xs = [] := by
  have := noP ys
  subst this
  cases h
  rfl

theorem cnt_same : ∀ (n m : Nat) (p : P n) (q : P m), SameP n m p q → cnt n p = cnt m q
  | 0, _, e, _, _ => nomatch e
  | _ + 1, 0, _, e, _ => nomatch e
  | n + 1, m + 1, (p : PartOf (P n)), (q : PartOf (P m)), h => by
    show 1 + (p.ways.xs.map (fun s => (s.xs.map (cnt n)).sum)).sum = 1 + (q.ways.xs.map (fun s => (s.xs.map (cnt m)).sum)).sum
    rw [h.2.2.2.2.map (fun s t hst => by
      show (s.xs.map (cnt n)).sum = (t.xs.map (cnt m)).sum
      rw [hst.map (cnt_same n m)])]
theorem dp_same : ∀ (n m : Nat) (p : P n) (q : P m), SameP n m p q → dp n p = dp m q
  | 0, _, e, _, _ => nomatch e
  | _ + 1, 0, _, e, _ => nomatch e
  | n + 1, m + 1, (p : PartOf (P n)), (q : PartOf (P m)), h => by
    show maxL (p.ways.xs.map (fun s => maxL (s.xs.map (dp n)))) + (if p.kind = 6 then 1 else 0) = maxL (q.ways.xs.map (fun s => maxL (s.xs.map (dp m)))) + (if q.kind = 6 then 1 else 0)
    rw [h.1, h.2.2.2.2.map (fun s t hst => by
      show maxL (s.xs.map (dp n)) = maxL (t.xs.map (dp m))
      rw [hst.map (dp_same n m)])]
theorem sz_same : ∀ (n m : Nat) (p : P n) (q : P m), SameP n m p q → sz n p = sz m q
  | 0, _, e, _, _ => nomatch e
  | _ + 1, 0, _, e, _ => nomatch e
  | n + 1, m + 1, (p : PartOf (P n)), (q : PartOf (P m)), h => by
    show 1 + p.text.size + p.rg.xs.length + (p.ways.xs.map (fun s => 1 + (s.xs.map (sz n)).sum)).sum = 1 + q.text.size + q.rg.xs.length + (q.ways.xs.map (fun s => 1 + (s.xs.map (sz m)).sum)).sum
    rw [h.2.1, h.2.2.2.1, h.2.2.2.2.map (fun s t hst => by
      show 1 + (s.xs.map (sz n)).sum = 1 + (t.xs.map (sz m)).sum
      rw [hst.map (sz_same n m)])]
theorem kd_same : ∀ (n m : Nat) (p : P n) (q : P m), SameP n m p q → kd n p = kd m q
  | 0, _, e, _, _ => nomatch e
  | _ + 1, 0, _, e, _ => nomatch e
  | _ + 1, _ + 1, _, _, h => h.1
theorem partBad_same {n m : Nat} {p : PartOf (P n)} {q : PartOf (P m)} (h : SameP (n + 1) (m + 1) p q) : partBad p = partBad q := by
  unfold partBad
  rw [h.1, h.2.1, h.2.2.1, h.2.2.2.1, h.2.2.2.2.length]
theorem stepErr_same {n m : Nat} {f : Sl (P n) → Int} {g : Sl (P m) → Int} (hf : ∀ s t, SameL n m s.xs t.xs → f s = g t) (ks : List Int) (i : Nat) {p : P (n + 1)} {q : P (m + 1)} (h : SameP (n + 1) (m + 1) p q) : stepErr n f ks i p = stepErr m g ks i q := by
  unfold stepErr
  have hb : formErr (pt n p) = formErr (pt m q) := by
    unfold formErr
    rw [show partBad (pt n p) = partBad (pt m q) from partBad_same h]
  rw [hb, show (pt n p).kind = (pt m q).kind from h.1, show (pt n p).rg.xs = (pt m q).rg.xs from h.2.2.2.1, show (pt n p).ways.xs.map f = (pt m q).ways.xs.map g from h.2.2.2.2.map (fun s t hst => hf s t hst)]
theorem chkGo_same {n m : Nat} {f : Sl (P n) → Int} {g : Sl (P m) → Int} (hf : ∀ s t, SameL n m s.xs t.xs → f s = g t) (ks : List Int) : ∀ (i : Nat) {xs : List (P (n + 1))} {ys : List (P (m + 1))}, SameL (n + 1) (m + 1) xs ys → chkGo n f ks i xs = chkGo m g ks i ys
  | _, _, _, .nil => rfl
  | i, _, _, .cons h t => by
    simp only [chkGo]
    rw [stepErr_same hf ks i h, chkGo_same hf ks (i + 1) t]
theorem chk_nil : ∀ (n : Nat), chk n [] = 0
  | 0 => rfl
  | _ + 1 => rfl
theorem chk_same : ∀ (n m : Nat) (xs : List (P n)) (ys : List (P m)), SameL n m xs ys → chk n xs = chk m ys
  | 0, m, xs, ys, h => by
    rw [h.zl, chk_nil]
    rfl
  | n + 1, 0, xs, ys, h => by
    rw [h.zr, chk_nil]
    rfl
  | n + 1, m + 1, xs, ys, h => by
    show chkGo n (fun s => chk n s.xs) (kdL (n + 1) xs) 0 xs = chkGo m (fun s => chk m s.xs) (kdL (m + 1) ys) 0 ys
    have hk : kdL (n + 1) xs = kdL (m + 1) ys := h.map (kd_same (n + 1) (m + 1))
    rw [hk]
    exact chkGo_same (fun s t hst => chk_same n m s.xs t.xs hst) _ 0 h
theorem meetGo_same {n m : Nat} {f : Sl (P n) → Bool} {g : Sl (P m) → Bool} (hf : ∀ s t, SameL n m s.xs t.xs → f s = g t) (ks : List Int) : ∀ (i : Nat) {xs : List (P (n + 1))} {ys : List (P (m + 1))}, SameL (n + 1) (m + 1) xs ys → meetGo n f ks i xs = meetGo m g ks i ys
  | _, _, _, .nil => rfl
  | i, p :: _, q :: _, .cons h t => by
    simp only [meetGo]
    have ha : ∀ {l : List (Sl (P n))} {l2 : List (Sl (P m))}, All2 (fun s t => SameL n m s.xs t.xs) l l2 → l.any f = l2.any g := by
      intro l l2 h2
      induction h2 with
      | nil => rfl
      | cons h3 _ ih => rw [List.any_cons, List.any_cons, hf _ _ h3, ih]
    rw [meetGo_same hf ks (i + 1) t, show (pt n p).kind = (pt m q).kind from h.1, show (pt n p).ways.xs.any f = (pt m q).ways.xs.any g from ha h.2.2.2.2]
theorem meet_nil : ∀ (n : Nat), meet n [] = false
  | 0 => rfl
  | _ + 1 => rfl
theorem meet_same : ∀ (n m : Nat) (xs : List (P n)) (ys : List (P m)), SameL n m xs ys → meet n xs = meet m ys
  | 0, m, xs, ys, h => by
    rw [h.zl, meet_nil]
    rfl
  | n + 1, 0, xs, ys, h => by
    rw [h.zr, meet_nil]
    rfl
  | n + 1, m + 1, xs, ys, h => by
    show meetGo n (fun s => meet n s.xs) (kdL (n + 1) xs) 0 xs = meetGo m (fun s => meet m s.xs) (kdL (m + 1) ys) 0 ys
    have hk : kdL (n + 1) xs = kdL (m + 1) ys := h.map (kd_same (n + 1) (m + 1))
    rw [hk]
    exact meetGo_same (fun s t hst => meet_same n m s.xs t.xs hst) _ 0 h
theorem txt_nil : ∀ (n : Nat) (d : Bool), txt n d [] = []
  | 0, _ => rfl
  | _ + 1, _ => rfl
theorem txt_same : ∀ (n m : Nat) (d : Bool) (xs : List (P n)) (ys : List (P m)), SameL n m xs ys → txt n d xs = txt m d ys
  | 0, m, d, xs, ys, h => by
    rw [h.zl, txt_nil]
    rfl
  | n + 1, 0, d, xs, ys, h => by
    rw [h.zr, txt_nil]
    rfl
  | n + 1, m + 1, d, xs, ys, h => by
    show (xs.flatMap (fun p => txtOf (fun s => txt n true s.xs) d (pt n p))) = (ys.flatMap (fun p => txtOf (fun s => txt m true s.xs) d (pt m p)))
    have hp : ∀ p q, SameP (n + 1) (m + 1) p q → txtOf (fun s => txt n true s.xs) d (pt n p) = txtOf (fun s => txt m true s.xs) d (pt m q) := fun p q hpq => by
      unfold txtOf
      rw [show (pt n p).kind = (pt m q).kind from hpq.1, show (pt n p).text = (pt m q).text from hpq.2.1, show (pt n p).neg = (pt m q).neg from hpq.2.2.1, show (pt n p).rg.xs = (pt m q).rg.xs from hpq.2.2.2.1, show (pt n p).ways.xs.map (fun s => txt n true s.xs) = (pt m q).ways.xs.map (fun s => txt m true s.xs) from hpq.2.2.2.2.map (fun s t hst => txt_same n m true s.xs t.xs hst)]
    rw [List.flatMap_def, List.flatMap_def, h.map hp]
theorem lastSl_nil : ∀ (n : Nat), lastSl n [] = false
  | 0 => rfl
  | _ + 1 => rfl
theorem lastSl_same : ∀ (n m : Nat) (xs : List (P n)) (ys : List (P m)), SameL n m xs ys → lastSl n xs = lastSl m ys
  | 0, m, xs, ys, h => by
    rw [h.zl, lastSl_nil]
    rfl
  | n + 1, 0, xs, ys, h => by
    rw [h.zr, lastSl_nil]
    rfl
  | n + 1, m + 1, xs, ys, h => by
    simp only [lastSl]
    rcases h.last with ⟨h1, h2⟩ | ⟨a, b, h1, h2, h3⟩
    · rw [h1, h2]
      rfl
    · rw [h1, h2]
      show (decide ((pt n a).kind = 1) && (pt n a).text.data.toList.getLast? == some 47) = (decide ((pt m b).kind = 1) && (pt m b).text.data.toList.getLast? == some 47)
      rw [show (pt n a).kind = (pt m b).kind from h3.1, show (pt n a).text = (pt m b).text from h3.2.1]
theorem ckG_same {n m : Nat} {xs : List (P n)} {ys : List (P m)} (h : SameL n m xs ys) (rooted dirs : Bool) : ckG rooted dirs n xs = ckG rooted dirs m ys := by
  have h1 : cntL n xs = cntL m ys := by unfold cntL; rw [h.map (cnt_same n m)]
  have h2 : dpL n xs = dpL m ys := by unfold dpL; rw [h.map (dp_same n m)]
  have h3 : gtxtN rooted dirs n xs = gtxtN rooted dirs m ys := by unfold gtxtN; rw [txt_same n m false xs ys h, lastSl_same n m xs ys h]
  have h4 : (xs = []) = (ys = []) := by
    have := h.length
    apply propext
    constructor
    · intro e; rw [e] at this; exact List.eq_nil_of_length_eq_zero this.symm
    · intro e; rw [e] at this; exact List.eq_nil_of_length_eq_zero this
  unfold ckG
  rw [h1, h2, h3, chk_same n m xs ys h, meet_same n m xs ys h]
  simp only [h4]
end Go.Proofs.YtfenmeacimfiaaaGreatDoor
namespace Go.Proofs.YtfenmeacimfiaaaGreatDoor
open Go.RowKit

def kindG : Wh.G.GP → Int
  | .text _ => 1
  | .one => 2
  | .star => 3
  | .deep => 4
  | .set _ _ => 5
  | .ways _ => 6
theorem kind_gp {n : Nat} {p : PartOf (P n)} (h : 1 ≤ p.kind ∧ p.kind ≤ 6) : kindG (gpOf (n + 1) p) = p.kind := by
  obtain ⟨k, t, ng, rg, ws⟩ := p
  have h : 1 ≤ k ∧ k ≤ 6 := h
  rcases (by omega : k = 1 ∨ k = 2 ∨ k = 3 ∨ k = 4 ∨ k = 5 ∨ k = 6) with rfl | rfl | rfl | rfl | rfl | rfl <;> rfl
theorem clean_kind {n : Nat} {p : PartOf (P n)} (h : Clean (n + 1) p) : 1 ≤ p.kind ∧ p.kind ≤ 6 := by
  rcases h with ⟨h, _⟩ | ⟨h, _⟩ | ⟨h, _⟩ | ⟨h, _⟩ <;> omega
theorem all2_of {α β γ : Type} {R : α → β → Prop} {f : α → γ} {g : β → γ} : ∀ {l : List α} {m : List β}, (∀ a ∈ l, ∀ b ∈ m, f a = g b → R a b) → l.map f = m.map g → All2 R l m
  | [], [], _, _ => .nil
  | [], _ :: _, _, h => nomatch h
  | _ :: _, [], _, h => nomatch h
  | a :: l, b :: m, hr, h => by
    rw [List.map_cons, List.map_cons] at h
    injection h with h1 h2
    exact .cons (hr a (by simp) b (by simp) h1) (all2_of (fun x hx y hy => hr x (by simp [hx]) y (by simp [hy])) h2)
theorem bytes_ext {a b : ByteArray} (h : a.data.toList = b.data.toList) : a = b := by
  cases a with
  | mk a =>
    cases b with
    | mk b =>
      congr 1
      exact Array.toList_inj.1 h
theorem gp_same : ∀ (n m : Nat) (p : P n) (q : P m), Clean n p → Clean m q → gpOf n p = gpOf m q → SameP n m p q
  | 0, _, e, _, _, _, _ => nomatch e
  | _ + 1, 0, _, e, _, _, _ => nomatch e
  | n + 1, m + 1, (p : PartOf (P n)), (q : PartOf (P m)), hp, hq, h => by
    have hk : p.kind = q.kind := by rw [← kind_gp (clean_kind hp), ← kind_gp (clean_kind hq), h]
    obtain ⟨k, t, ng, rg, ws⟩ := p
    obtain ⟨k2, t2, ng2, rg2, ws2⟩ := q
    have hk : k = k2 := hk
    subst hk
    have nil2 : ws.xs = [] → ws2.xs = [] → All2 (fun (s : Sl (P n)) (t : Sl (P m)) => All2 (SameP n m) s.xs t.xs) ws.xs ws2.xs := fun h1 h2 => by rw [h1, h2]; exact .nil
    rcases hp with ⟨h1, h2, h3, h4⟩ | ⟨h1, h2, h3, h4, h5⟩ | ⟨h1, h2, h3⟩ | ⟨h1, h2, h3, h4, h5⟩
    · have h1 : k = 1 := h1
      subst h1
      rcases hq with ⟨_, g2, g3, g4⟩ | ⟨g1, _⟩ | ⟨g1, _⟩ | ⟨g1, _⟩
      · have h : Wh.G.GP.text t.data.toList = Wh.G.GP.text t2.data.toList := h
        injection h with h
        exact ⟨rfl, bytes_ext h, h2.trans g2.symm, h3.trans g3.symm, nil2 h4 g4⟩
      · have g1 : (1 : Int) = 2 ∨ (1 : Int) = 3 ∨ (1 : Int) = 4 := g1
        omega
      · have g1 : (1 : Int) = 5 := g1
        omega
      · have g1 : (1 : Int) = 6 := g1
        omega
    · have h1 : k = 2 ∨ k = 3 ∨ k = 4 := h1
      rcases hq with ⟨g1, _⟩ | ⟨_, g2, g3, g4, g5⟩ | ⟨g1, _⟩ | ⟨g1, _⟩
      · have g1 : k = 1 := g1
        omega
      · exact ⟨rfl, bytes_ext (h2.trans g2.symm), h3.trans g3.symm, h4.trans g4.symm, nil2 h5 g5⟩
      · have g1 : k = 5 := g1
        omega
      · have g1 : k = 6 := g1
        omega
    · have h1 : k = 5 := h1
      subst h1
      rcases hq with ⟨g1, _⟩ | ⟨g1, _⟩ | ⟨_, g2, g3⟩ | ⟨g1, _⟩
      · have g1 : (5 : Int) = 1 := g1
        omega
      · have g1 : (5 : Int) = 2 ∨ (5 : Int) = 3 ∨ (5 : Int) = 4 := g1
        omega
      · have h : Wh.G.GP.set ng rg.xs = Wh.G.GP.set ng2 rg2.xs := h
        injection h with e1 e2
        exact ⟨rfl, bytes_ext (h2.trans g2.symm), e1, e2, nil2 h3 g3⟩
      · have g1 : (5 : Int) = 6 := g1
        omega
    · have h1 : k = 6 := h1
      subst h1
      rcases hq with ⟨g1, _⟩ | ⟨g1, _⟩ | ⟨g1, _⟩ | ⟨_, g2, g3, g4, g5⟩
      · have g1 : (6 : Int) = 1 := g1
        omega
      · have g1 : (6 : Int) = 2 ∨ (6 : Int) = 3 ∨ (6 : Int) = 4 := g1
        omega
      · have g1 : (6 : Int) = 5 := g1
        omega
      · have h : Wh.G.GP.ways (ws.xs.map (fun s => s.xs.map (gpOf n))) = Wh.G.GP.ways (ws2.xs.map (fun s => s.xs.map (gpOf m))) := h
        injection h with h
        exact ⟨rfl, bytes_ext (h2.trans g2.symm), h3.trans g3.symm, h4.trans g4.symm, all2_of (fun s hs t ht hst => all2_of (fun a ha b hb => gp_same n m a b (h5 s hs a ha) (g5 t ht b hb)) hst) h⟩
theorem gpL_same {n m : Nat} {xs : List (P n)} {ys : List (P m)} (hx : ∀ q ∈ xs, Clean n q) (hy : ∀ q ∈ ys, Clean m q) (h : gpL n xs = gpL m ys) : SameL n m xs ys :=
  all2_of (fun a ha b hb => gp_same n m a b (hx a ha) (hy b hb)) h

theorem empty_of {s : ByteArray} (h : (!s.toList.isEmpty) = false) : s.data.toList = [] := by
  rw [Lib.toList_data] at h
  simpa using h
theorem clean_of_good : ∀ (n : Nat) (xs : List (P n)), Good n xs → ∀ p ∈ xs, Clean n p
  | 0, _, _, e, _ => nomatch e
  | n + 1, xs, h, (p : PartOf (P n)), hp => by
    obtain ⟨h1, h2, h3, h4⟩ := h p hp
    obtain ⟨k, t, ng, rg, ws⟩ := p
    have h1 : 1 ≤ k ∧ k ≤ 6 := h1
    have h2 : formBad k (!t.toList.isEmpty) (ng || decide (0 < rg.xs.length)) (decide (0 < ws.xs.length)) (decide (rg.xs.length = 0)) (hasNul t) = false := h2
    have hrg : (ng || decide (0 < rg.xs.length)) = false → ng = false ∧ rg.xs = [] := fun h => by
      rw [Bool.or_eq_false_iff] at h
      exact ⟨h.1, List.eq_nil_of_length_eq_zero (by have := of_decide_eq_false h.2; omega)⟩
    have hws : (decide (0 < ws.xs.length)) = false → ws.xs = [] := fun h => List.eq_nil_of_length_eq_zero (by have := of_decide_eq_false h; omega)
    unfold formBad at h2
    by_cases k1 : k = 1
    · rw [if_pos k1] at h2
      simp only [Bool.or_eq_false_iff] at h2
      exact .inl ⟨k1, (hrg (by rw [Bool.or_eq_false_iff]; exact h2.1.1.1)).1, (hrg (by rw [Bool.or_eq_false_iff]; exact h2.1.1.1)).2, hws h2.1.1.2⟩
    rw [if_neg k1] at h2
    by_cases k5 : k = 5
    · rw [if_pos k5] at h2
      simp only [Bool.or_eq_false_iff] at h2
      exact .inr (.inr (.inl ⟨k5, empty_of h2.1.1, hws h2.1.2⟩))
    rw [if_neg k5] at h2
    by_cases k6 : k = 6
    · rw [if_pos k6] at h2
      simp only [Bool.or_eq_false_iff] at h2
      exact .inr (.inr (.inr ⟨k6, empty_of h2.1.1, (hrg (by rw [Bool.or_eq_false_iff]; exact h2.1.2)).1, (hrg (by rw [Bool.or_eq_false_iff]; exact h2.1.2)).2, fun s hs => clean_of_good n s.xs (h4 s hs)⟩))
    · rw [if_neg k6] at h2
      simp only [Bool.or_eq_false_iff] at h2
      exact .inr (.inl ⟨by show k = 2 ∨ k = 3 ∨ k = 4; omega, empty_of h2.1.1, (hrg (by rw [Bool.or_eq_false_iff]; exact h2.1.2)).1, (hrg (by rw [Bool.or_eq_false_iff]; exact h2.1.2)).2, hws h2.2⟩)
end Go.Proofs.YtfenmeacimfiaaaGreatDoor
namespace Go.Proofs.YtfenmeacimfiaaaGreatDoor
open Go.RowKit

theorem rg_ok : ∀ (l : List (Int × Int)) (prev : Option Int), rgGo prev l = 0 → Wh.G.Canon l ∧ (∀ r ∈ l, Wh.G.okR r) ∧ (∀ b, prev = some b → ∀ x, l.head? = some x → b + 1 < x.1)
  | [], _, _ => ⟨trivial, fun r hr => (by cases hr), fun _ _ x hx => (by cases hx)⟩
  | r :: l, prev, h => by
    rw [rgGo_cons] at h
    cases hb : rgBad r.1 r.2
    case true => rw [hb, if_pos rfl] at h; exact absurd h (by decide)
    rw [hb, if_neg (by decide)] at h
    cases hn : rgNear prev r.1
    case true => rw [hn, if_pos rfl] at h; exact absurd h (by decide)
    rw [hn, if_neg (by decide)] at h
    obtain ⟨h1, h2, h3⟩ := rg_ok l (some r.2) h
    have hr : Wh.G.okR r := by
      unfold rgBad at hb
      simp at hb
      unfold Wh.G.okR
      omega
    refine ⟨?_, fun x hx => ?_, fun b e x hx => ?_⟩
    · cases l with
      | nil => exact hr.1.2.1
      | cons y l => exact ⟨hr.1.2.1, h3 r.2 rfl y rfl, h1⟩
    · rcases List.mem_cons.1 hx with rfl | hx
      · exact hr
      · exact h2 x hx
    · injection hx with hx
      subst e hx
      unfold rgNear at hn
      have := of_decide_eq_false hn
      omega
theorem isT_gp {n : Nat} {p : PartOf (P n)} (h : 1 ≤ p.kind ∧ p.kind ≤ 6) : Wh.G.isT (gpOf (n + 1) p) = (p.kind == 1) ∧ Wh.G.isS (gpOf (n + 1) p) = isStar p.kind := by
  obtain ⟨k, t, ng, rg, ws⟩ := p
  have h : 1 ≤ k ∧ k ≤ 6 := h
  rcases (by omega : k = 1 ∨ k = 2 ∨ k = 3 ∨ k = 4 ∨ k = 5 ∨ k = 6) with rfl | rfl | rfl | rfl | rfl | rfl <;> exact ⟨rfl, rfl⟩
theorem okW_map {n : Nat} : ∀ (ws : List (Sl (P n))), (∀ s ∈ ws, Wh.G.okL false false (gpL n s.xs)) → Wh.G.okW (ws.map (fun s => s.xs.map (gpOf n)))
  | [], _ => trivial
  | s :: ws, h => ⟨h s (by simp), okW_map ws (fun t ht => h t (by simp [ht]))⟩
theorem stepErr_zero2 {n : Nat} {f : Sl (P n) → Int} {ks : List Int} {i : Nat} {p : P (n + 1)} (h : stepErr n f ks i p = 0) :
    (1 ≤ (pt n p).kind ∧ (pt n p).kind ≤ 6) ∧ partBad (pt n p) = false ∧ (isTxt ks i && (isTxt ks ((i : Int) - 1) || isTxt ks ((i : Int) + 1))) = false ∧ rgErr (pt n p).rg.xs = 0 ∧ ∀ s ∈ (pt n p).ways.xs, f s = 0 := by
  unfold stepErr at h
  by_cases k1 : (pt n p).kind < 1 ∨ 6 < (pt n p).kind
  · rw [if_pos k1] at h
    exact absurd h (by decide)
  rw [if_neg k1] at h
  by_cases k2 : formErr (pt n p) = 0
  case neg =>
    rw [if_pos k2] at h
    exact absurd h k2
  rw [if_neg (by simpa using k2)] at h
  have hb : partBad (pt n p) = false := by
    unfold formErr at k2
    cases hb : partBad (pt n p)
    · rfl
    · rw [hb, if_pos rfl] at k2
      exact absurd k2 (by decide)
  cases k3 : (isTxt ks i && (isTxt ks ((i : Int) - 1) || isTxt ks ((i : Int) + 1)))
  case true =>
    rw [k3, if_pos rfl] at h
    exact absurd h (by decide)
  rw [k3, if_neg (by decide)] at h
  by_cases k4 : rgErr (pt n p).rg.xs = 0
  case neg =>
    rw [if_pos k4] at h
    exact absurd h k4
  rw [if_neg (by simpa using k4)] at h
  exact ⟨by omega, hb, rfl, k4, fun s hs => firstErr_zero h _ (List.mem_map.2 ⟨s, hs, rfl⟩)⟩
theorem okP_of {n : Nat} {p : PartOf (P n)} (h1 : 1 ≤ p.kind ∧ p.kind ≤ 6) (h2 : partBad p = false) (h4 : rgErr p.rg.xs = 0) (h5 : ∀ s ∈ p.ways.xs, Wh.G.okL false false (gpL n s.xs)) : Wh.G.okP (gpOf (n + 1) p) := by
  obtain ⟨k, t, ng, rg, ws⟩ := p
  have h1 : 1 ≤ k ∧ k ≤ 6 := h1
  have h2 : formBad k (!t.toList.isEmpty) (ng || decide (0 < rg.xs.length)) (decide (0 < ws.xs.length)) (decide (rg.xs.length = 0)) (hasNul t) = false := h2
  unfold formBad at h2
  rcases (by omega : k = 1 ∨ k = 2 ∨ k = 3 ∨ k = 4 ∨ k = 5 ∨ k = 6) with rfl | rfl | rfl | rfl | rfl | rfl
  · rw [if_pos rfl] at h2
    simp only [Bool.or_eq_false_iff] at h2
    show t.data.toList ≠ [] ∧ ∀ b ∈ t.data.toList, b ≠ 0
    refine ⟨fun e => ?_, fun b hb e => ?_⟩
    · have := h2.1.2
      rw [Lib.toList_data, e] at this
      cases this
    · have := h2.2
      unfold hasNul at this
      subst e
      rw [List.contains_iff_mem.2 hb] at this
      cases this
  · exact trivial
  · exact trivial
  · exact trivial
  · rw [if_neg (by decide), if_pos rfl] at h2
    simp only [Bool.or_eq_false_iff] at h2
    obtain ⟨a1, a2, _⟩ := rg_ok _ _ h4
    have hne : rg.xs ≠ [] := fun e => by
      have := h2.2
      rw [e] at this
      cases this
    exact ⟨hne, a1, a2⟩
  · rw [if_neg (by decide), if_neg (by decide), if_pos rfl] at h2
    simp only [Bool.or_eq_false_iff] at h2
    refine ⟨fun e => ?_, okW_map _ h5⟩
    have := h2.2
    have e : ws.xs = [] := List.map_eq_nil_iff.1 e
    rw [e] at this
    cases this
theorem okL_go {n : Nat} {f : Sl (P n) → Int} {g : Sl (P n) → Bool} (hw : ∀ s : Sl (P n), f s = 0 → g s = false → Wh.G.okL false false (gpL n s.xs)) (ks : List Int) : ∀ (rest : List (P (n + 1))) (i : Nat), (∀ j p, rest[j]? = some p → ks[i + j]? = some (pt n p).kind) → chkGo n f ks i rest = 0 → meetGo n g ks i rest = false →
    Wh.G.okL (isTxt ks ((i : Int) - 1)) (starAt ks ((i : Int) - 1)) (gpL (n + 1) rest)
  | [], _, _, _, _ => trivial
  | p :: r, i, hk, hc, hm => by
    unfold chkGo at hc
    by_cases h0 : stepErr n f ks i p = 0
    case neg =>
      rw [if_neg h0] at hc
      exact absurd hc h0
    rw [if_pos h0] at hc
    unfold meetGo at hm
    rw [Bool.or_eq_false_iff, Bool.or_eq_false_iff] at hm
    obtain ⟨h1, h2, h3, h4, h5⟩ := stepErr_zero2 h0
    have hki : ks[i]? = some (pt n p).kind := hk 0 p rfl
    obtain ⟨hT, hS⟩ := isT_gp h1
    have eT : isTxt ks i = ((pt n p).kind == 1) := by
      unfold isTxt
      rw [decide_eq_true (by omega), Bool.true_and, show ((i : Int)).toNat = i from rfl, hki]
      rfl
    have eS : starAt ks i = isStar (pt n p).kind := by
      unfold starAt
      rw [decide_eq_true (by omega), Bool.true_and, show ((i : Int)).toNat = i from rfl, hki]
      rfl
    have ih := okL_go hw ks r (i + 1) (fun j q hj => by
      have := hk (j + 1) q hj
      rw [show i + 1 + j = i + (j + 1) by omega]
      exact this) hc hm.2
    rw [show (((i + 1 : Nat) : Int)) - 1 = (i : Int) by omega, eT, eS, ← hT, ← hS] at ih
    refine ⟨okP_of h1 h2 h4 (fun s hs => hw s (h5 s hs) ?_), fun e => ?_, fun e => ?_, ih⟩
    · have := hm.1.2
      rw [List.any_eq_false] at this
      simpa using this s hs
    · have e : Wh.G.isT (gpOf (n + 1) (pt n p)) = true := e
      rw [hT] at e
      rw [eT, e, Bool.true_and, Bool.or_eq_false_iff] at h3
      exact h3.1
    · have e : Wh.G.isS (gpOf (n + 1) (pt n p)) = true := e
      rw [hS] at e
      have := hm.1.1
      rw [e, Bool.and_true] at this
      by_cases hi : 0 < i
      · rw [decide_eq_true hi, Bool.true_and] at this
        exact this
      · unfold starAt
        rw [decide_eq_false (by omega)]
        rfl
theorem okL_of : ∀ (n : Nat) (xs : List (P n)), chk n xs = 0 → meet n xs = false → Wh.G.okL false false (gpL n xs)
  | 0, xs, _, _ => by
    rw [noP xs]
    exact trivial
  | n + 1, xs, hc, hm => by
    have := okL_go (n := n) (f := fun s => chk n s.xs) (g := fun s => meet n s.xs) (fun s h1 h2 => okL_of n s.xs h1 h2) (kdL (n + 1) xs) xs 0 (fun j p hj => by
      unfold kdL
      rw [Nat.zero_add, List.getElem?_map, hj]
      rfl) hc hm
    exact this

/-! The text. -/
theorem wtxt_join : ∀ (l : List (List Wh.G.GP)), l ≠ [] → Wh.G.wtxt l = Lib.join (l.map (Wh.G.ltxt true)) [44] ++ [125] := by
  have key : ∀ (r : List (List Wh.G.GP)), Wh.G.vtxt r = Lib.joinTail [44] (r.map (Wh.G.ltxt true)) ++ [125] := by
    intro r
    induction r with
    | nil => rfl
    | cons x r ih =>
      show 44 :: (Wh.G.ltxt true x ++ Wh.G.vtxt r) = _
      rw [ih]
      simp [Lib.joinTail]
  intro l hl
  cases l with
  | nil => exact absurd rfl hl
  | cons x r =>
    show Wh.G.ltxt true x ++ Wh.G.vtxt r = _
    rw [key r, List.map_cons, Lib.join_cons, List.append_assoc]
theorem ltxt_same : ∀ (n : Nat) (d : Bool) (xs : List (P n)), (∀ p ∈ xs, Clean n p) → Good n xs → Wh.G.ltxt d (gpL n xs) = txt n d xs
  | 0, d, xs, _, _ => by
    rw [noP xs]
    rfl
  | n + 1, d, [], _, _ => rfl
  | n + 1, d, p :: xs, hc, hg => by
    have ih := ltxt_same (n + 1) d xs (fun q hq => hc q (by simp [hq])) (fun q hq => hg q (by simp [hq]))
    show Wh.G.ptxt d (gpOf (n + 1) p) ++ Wh.G.ltxt d (gpL (n + 1) xs) = txtOf (fun s => txt n true s.xs) d (pt n p) ++ txt (n + 1) d xs
    rw [ih]
    congr 1
    have hcp := hc p (by simp)
    have hgp := hg p (by simp)
    have hk := clean_kind hcp
    obtain ⟨k, t, ng, rg, ws⟩ : PartOf (P n) := p
    have hk : 1 ≤ k ∧ k ≤ 6 := hk
    rcases (by omega : k = 1 ∨ k = 2 ∨ k = 3 ∨ k = 4 ∨ k = 5 ∨ k = 6) with rfl | rfl | rfl | rfl | rfl | rfl
    · rfl
    · rfl
    · rfl
    · rfl
    · rfl
    · have h2 : formBad 6 (!t.toList.isEmpty) (ng || decide (0 < rg.xs.length)) (decide (0 < ws.xs.length)) (decide (rg.xs.length = 0)) (hasNul t) = false := hgp.2.1
      unfold formBad at h2
      rw [if_neg (by decide), if_neg (by decide), if_pos rfl] at h2
      simp only [Bool.or_eq_false_iff] at h2
      have hne : ws.xs.map (fun s => gpL n s.xs) ≠ [] := fun e => by
        have e : ws.xs = [] := List.map_eq_nil_iff.1 e
        have := h2.2
        rw [e] at this
        cases this
      have hw : ∀ s ∈ ws.xs, ∀ q ∈ s.xs, Clean n q := by
        rcases hcp with ⟨h, _⟩ | ⟨h, _⟩ | ⟨h, _⟩ | ⟨_, _, _, _, h⟩
        · exact absurd h (by show ¬ (6 : Int) = 1; decide)
        · exact absurd h (by show ¬ ((6 : Int) = 2 ∨ (6 : Int) = 3 ∨ (6 : Int) = 4); decide)
        · exact absurd h (by show ¬ (6 : Int) = 5; decide)
        · exact h
      show 123 :: Wh.G.wtxt (ws.xs.map (fun s => gpL n s.xs)) = [123] ++ Lib.join (ws.xs.map (fun s => txt n true s.xs)) [44] ++ [125]
      rw [wtxt_join _ hne, List.map_map]
      rw [show ws.xs.map (Wh.G.ltxt true ∘ fun s => gpL n s.xs) = ws.xs.map (fun s => txt n true s.xs) from List.map_congr_left (fun s hs => ltxt_same n true s.xs (hw s hs) (hgp.2.2.2 s hs))]
      rfl
theorem lastSl_gp : ∀ (n : Nat) (xs : List (P n)), (∀ p ∈ xs, Clean n p) → Wh.G.lastSl (gpL n xs) = lastSl n xs
  | 0, xs, _ => by
    rw [noP xs]
    rfl
  | n + 1, xs, hc => by
    unfold Wh.G.lastSl
    simp only [lastSl]
    rw [List.getLast?_map]
    cases hl : xs.getLast? with
    | none => rfl
    | some p =>
      have hk := clean_kind (hc p (List.mem_of_getLast? hl))
      show (match some (gpOf (n + 1) p) with | some (.text t) => t.getLast? == some 47 | _ => false) = (decide ((pt n p).kind = 1) && (pt n p).text.data.toList.getLast? == some 47)
      obtain ⟨k, t, ng, rg, ws⟩ : PartOf (P n) := p
      have hk : 1 ≤ k ∧ k ≤ 6 := hk
      rcases (by omega : k = 1 ∨ k = 2 ∨ k = 3 ∨ k = 4 ∨ k = 5 ∨ k = 6) with rfl | rfl | rfl | rfl | rfl | rfl <;> rfl
theorem gtxt_gp (rooted dirs : Bool) (n : Nat) (xs : List (P n)) (hc : ∀ p ∈ xs, Clean n p) (hg : Good n xs) : Wh.G.gtxt rooted dirs (gpL n xs) = gtxtN rooted dirs n xs := by
  unfold Wh.G.gtxt gtxtN
  rw [lastSl_gp n xs hc, ltxt_same n false xs hc hg]
  rfl
/-- What is printed of a right glob is read as that glob. -/
theorem ckG_rt {rooted dirs : Bool} {n : Nat} {xs : List (P n)} (h : ckG rooted dirs n xs = 0) : (∀ p ∈ xs, Clean n p) ∧ Wh.G.readG (gtxtN rooted dirs n xs) = .ok rooted dirs (gpL n xs) ∧ (gtxtN rooted dirs n xs).length ≤ 200 ∧ Good n xs ∧ xs ≠ [] := by
  unfold ckG at h
  split at h
  · exact absurd h (by decide)
  split at h
  · rename_i h1 h2
    exact absurd h h2
  rename_i hc
  have hc : chk n xs = 0 := by simpa using hc
  split at h
  · exact absurd h (by decide)
  rename_i hne
  split at h
  · exact absurd h (by decide)
  rename_i hm
  have hm : meet n xs = false := by simpa using hm
  split at h
  · exact absurd h (by decide)
  rename_i hl
  have hg := good_of_chk n xs hc
  have hcl := clean_of_good n xs hg
  refine ⟨hcl, ?_, by omega, hg, hne⟩
  rw [← gtxt_gp rooted dirs n xs hcl hg]
  exact Wh.G.glob_rt (okL_of n xs hc hm) (fun e => hne (List.map_eq_nil_iff.1 e)) rooted dirs
end Go.Proofs.YtfenmeacimfiaaaGreatDoor
namespace Go.Proofs.YtfenmeacimfiaaaGreatDoor
open Go.RowKit

theorem neqRg (a b : Int) (w : World) : (binOp .neq 164 (.agg #[.int .i64 a, .int .i64 b]) (.agg #[.int .i64 a, .int .i64 b])).run Tryz.prog w = .ok (.bool false) w := by
  have u0 := Tryz.underlying3
  have hu : Tryz.prog.underlying 164 = some (.array 2 3) := by kernel_rfl
  have hc : Tryz.prog.cellsOf 3 = 1 := by kernel_rfl
  obtain ⟨i, hi⟩ : ∃ i, Tryz.prog.info? 3 = some i := Option.isSome_iff_exists.1 (by kernel_rfl)
  rw [run_neq_struct, show (10000 : Nat) = 9999 + 1 from rfl, run_equalIn_array w 9999 _ _ hu hi, show List.range 2 = [0, 1] from rfl]
  simp only [Op.eqItems, hc]
  go_simp

set_option maxHeartbeats 2000000 in
set_option maxRecDepth 100000 in
theorem equalRg_any (s t : Sl (Int × Int)) (w : World) (h1 : SlHolds w 2 rgCells s) (h2 : SlHolds w 2 rgCells t) (he : s.xs = t.xs) :
    Calls Tryz.prog 222 #[.slice s.a s.xs.length s.c, .slice t.a t.xs.length t.c] w fun e w' => e = .returned (.bool true) ∧ Below w.heap.size w w' := by
  obtain ⟨sa, sc, xs⟩ := s
  obtain ⟨ta, tc, ys⟩ := t
  have he : xs = ys := he
  subst he
  have H1 := Lib.hid h1
  have H2 := Lib.hid h2
  have hg : Tryz.prog.eqGuardType Tryz.prog.depth 164 = false := by kernel_rfl
  have hl : xs.length ≤ maxLen := Nat.le_trans h1.2.1 h1.2.2
  unfold maxLen at hl
  clear h1 h2
  dsimp only
  generalize hn : xs.length = N at *
  have HN := Lib.hid hn
  clear hn
  go_enter Tryz.func222, Tryz.ntmps222
  go_wp2_with fail
  go_loopg [13] N (fun g i wx => ∃ k : Nat, k + g = N ∧ i = .int .i64 k ∧ Below w.heap.size w wx)
  case atStart => exact ⟨0, by omega, rfl, Below.refl _ _⟩
  case round =>
    obtain ⟨k, hk, rfl, hb⟩ := hrel
    by_cases hlt : k < N
    · obtain ⟨g, rfl⟩ : ∃ g, gk = g + 1 := ⟨gk - 1, by omega⟩
      obtain ⟨c, hc⟩ : ∃ c, xs[k]? = some c := ⟨_, List.getElem?_eq_getElem (by rw [HN.out]; exact hlt)⟩
      obtain ⟨b1, o1, e1, hb1, p0, p1⟩ := pairRow (H1.out.under hb) hc
      obtain ⟨b2, o2, e2, hb2, q0, q1⟩ := pairRow (H2.out.under hb) hc
      dsimp only at e1 e2
      subst e1 e2
      obtain ⟨ca, cb⟩ := c
      have hne := neqRg ca cb
      have hI : (k : Int) < (N : Int) := by omega
      have hI0 : (0 : Int) ≤ (k : Int) := by omega
      clear hc
      dsimp only at p0 p1 q0 q1
      go_wp2_with fail
      go_quiet (fail)
      go_wp2_with fail
      go_roundg g
      case measure => omega
      case rel => exact ⟨k + 1, by omega, by go_num, bDrewN hb _⟩
    · have hI : ¬ (k : Int) < (N : Int) := by omega
      go_wp2_with fail
      go_ret
      exact ⟨rfl, hb⟩
set_option maxHeartbeats 2000000 in
set_option maxRecDepth 100000 in
theorem listRg_any (s t : Sl (Int × Int)) (w : World) (h1 : SlHolds w 2 rgCells s) (h2 : SlHolds w 2 rgCells t) (he : s.xs = t.xs) :
    Calls Tryz.prog 195 #[.slice s.a s.xs.length s.c, .slice t.a t.xs.length t.c] w fun e w' => e = .returned (.bool true) ∧ Below w.heap.size w w' := by
  have HE := Lib.hid (equalRg_any s t w h1 h2 he)
  clear h1 h2 he
  generalize s.xs.length = N at *
  generalize t.xs.length = N2 at *
  go_enter Tryz.func195, Tryz.ntmps195
  go_wp2_with (go_at_call 222; refine HE.out.mono ?_; rintro e w2 ⟨rfl, hb2⟩)
  go_ret
  exact ⟨rfl, hb2⟩
end Go.Proofs.YtfenmeacimfiaaaGreatDoor
namespace Go.Proofs.YtfenmeacimfiaaaGreatDoor
open Go.RowKit

theorem enters_eqPart : ∀ args w, (callFunc 155 args).run Tryz.prog w = .ok (.enter 155 args) w := enters_of Tryz.func155 (by kernel_rfl) rfl
abbrev TrueP (w : World) (e : Ending) (w' : World) : Prop := e = .returned (.bool true) ∧ Below w.heap.size w w'

set_option maxHeartbeats 4000000 in
set_option maxRecDepth 100000 in
theorem equalParts_any (n m : Nat) (s : Sl (P (n + 1))) (t : Sl (P (m + 1))) (w : World) (h1 : SlHolds w 5 (partCells (n + 1)) s) (h2 : SlHolds w 5 (partCells (m + 1)) t) (hs : SameL (n + 1) (m + 1) s.xs t.xs)
    (HP : ∀ (p : PartOf (P n)) (q : PartOf (P m)), p ∈ s.xs → q ∈ t.xs → SameP (n + 1) (m + 1) p q → ∀ W, Below w.heap.size w W → Calls Tryz.prog 155 #[partVal p, partVal q] W (TrueP W)) :
    Calls Tryz.prog 154 #[.slice s.a s.xs.length s.c, .slice t.a t.xs.length t.c, .func (.func 155) #[] #[]] w (TrueP w) := by
  obtain ⟨sa, sc, xs⟩ := s
  obtain ⟨ta, tc, ys⟩ := t
  have HS := Lib.hid hs
  have H1 := Lib.hid h1
  have H2 := Lib.hid h2
  have HPp := Lib.hid HP
  have hl : xs.length ≤ maxLen := Nat.le_trans h1.2.1 h1.2.2
  have hlen : ys.length = xs.length := hs.length.symm
  unfold maxLen at hl
  clear h1 h2 hs HP
  dsimp only
  rw [hlen]
  have HLy := Lib.hid hlen
  clear hlen
  generalize hn : xs.length = N at *
  have HN := Lib.hid hn
  clear hn
  have hent := enters_eqPart
  go_enter Tryz.func154, Tryz.ntmps154
  go_wp2_with fail
  go_loopg [17] N (fun g i wx => ∃ k : Nat, k + g = N ∧ i = .int .i64 k ∧ Below w.heap.size w wx)
  case atStart => exact ⟨0, by omega, rfl, Below.refl _ _⟩
  case round =>
    obtain ⟨k, hk, rfl, hb⟩ := hrel
    by_cases hlt : k < N
    · obtain ⟨g, rfl⟩ : ∃ g, gk = g + 1 := ⟨gk - 1, by omega⟩
      obtain ⟨p, hp⟩ : ∃ p : PartOf (P n), xs[k]? = some p := ⟨_, List.getElem?_eq_getElem (by rw [HN.out]; exact hlt)⟩
      obtain ⟨q, hq⟩ : ∃ q : PartOf (P m), ys[k]? = some q := ⟨_, List.getElem?_eq_getElem (by rw [HLy.out]; exact hlt)⟩
      have HC := Lib.hid (HPp.out p q (List.mem_of_getElem? hp) (List.mem_of_getElem? hq) (HS.out.get k p q hp hq))
      obtain ⟨b1, o1, e1, hb1, p0, p1, p2, p3, p4⟩ := partRow (s := ⟨sa, sc, xs⟩) (H1.out.under hb) hp
      obtain ⟨b2, o2, e2, hb2, q0, q1, q2, q3, q4⟩ := partRow (s := ⟨ta, tc, ys⟩) (H2.out.under hb) hq
      dsimp only at e1 e2
      subst e1 e2
      have hI : (k : Int) < (N : Int) := by omega
      have hI0 : (0 : Int) ≤ (k : Int) := by omega
      have HB := Lib.hid hb
      clear hp hq
      obtain ⟨pk, pt3, pn, ⟨pra, prc, prx⟩, ⟨pwa, pwc, pwx⟩⟩ := p
      obtain ⟨qk, qt3, qn, ⟨qra, qrc, qrx⟩, ⟨qwa, qwc, qwx⟩⟩ := q
      dsimp only at p0 p1 p2 p3 p4 q0 q1 q2 q3 q4
      have HBx := Lib.hid (boxG_two wr #[.int .i64 pk, .string pt3, .bool pn, .slice pra prx.length prc, .slice pwa pwx.length pwc] #[.int .i64 qk, .string qt3, .bool qn, .slice qra qrx.length qrc, .slice qwa qwx.length qwc] party)
      have HC : Hid (∀ W, Below w.heap.size w W → Calls Tryz.prog 155 #[.agg #[.int .i64 pk, .string pt3, .bool pn, .slice pra prx.length prc, .slice pwa pwx.length pwc], .agg #[.int .i64 qk, .string qt3, .bool qn, .slice qra qrx.length qrc, .slice qwa qwx.length qwc]] W (TrueP W)) := Lib.hid HC.out
      generalize prx.length = l1 at *
      generalize pwx.length = l2 at *
      generalize qrx.length = l3 at *
      generalize qwx.length = l4 at *
      go_upto_region 7 with fail
      generalize (wr.alloc _).alloc _ = w2 at *
      clear p0 p1 p2 p3 p4 q0 q1 q2 q3 q4
      have c0 := HBx.out.1.cell (j := 0) rfl
      have c1 := HBx.out.1.cell (j := 1) rfl
      have c2 := HBx.out.1.cell (j := 2) rfl
      have c3 := HBx.out.1.cell (j := 3) rfl
      have c4 := HBx.out.1.cell (j := 4) rfl
      have d0 := HBx.out.2.1.cell (j := 0) rfl
      have d1 := HBx.out.2.1.cell (j := 1) rfl
      have d2 := HBx.out.2.1.cell (j := 2) rfl
      have d3 := HBx.out.2.1.cell (j := 3) rfl
      have d4 := HBx.out.2.1.cell (j := 4) rfl
      have HB2 := Lib.hid (HB.out.trans (HBx.out.2.2.1.mono HB.out.size))
      have HC2 := Lib.hid (HC.out w2 HB2.out)
      go_wp2_with (go_at_call 155; refine HC2.out.mono ?_; rintro e w3 ⟨rfl, hb3⟩)
      go_roundg g
      case measure => omega
      case rel => exact ⟨k + 1, by omega, by go_num, HB2.out.trans (hb3.mono HB2.out.size)⟩
    · have hI : ¬ (k : Int) < (N : Int) := by omega
      go_wp2_with fail
      go_ret
      exact ⟨rfl, hb⟩
end Go.Proofs.YtfenmeacimfiaaaGreatDoor
namespace Go.Proofs.YtfenmeacimfiaaaGreatDoor
open Go.RowKit

theorem enters_listPart : ∀ args w, (callFunc 99 args).run Tryz.prog w = .ok (.enter 99 args) w := enters_of Tryz.func99 (by kernel_rfl) rfl

set_option maxHeartbeats 1000000 in
set_option maxRecDepth 100000 in
theorem equalWays_any {α β : Type} (R : Sl α → Sl β → Prop) (s : Sl (Sl α)) (t : Sl (Sl β)) (w : World) (h1 : SlHolds w 1 (fun s : Sl α => [s.val]) s) (h2 : SlHolds w 1 (fun s : Sl β => [s.val]) t) (hs : All2 R s.xs t.xs)
    (HP : ∀ (p : Sl α) (q : Sl β), p ∈ s.xs → q ∈ t.xs → R p q → ∀ W, Below w.heap.size w W → Calls Tryz.prog 99 #[.slice p.a p.xs.length p.c, .slice q.a q.xs.length q.c] W (TrueP W)) :
    Calls Tryz.prog 223 #[.slice s.a s.xs.length s.c, .slice t.a t.xs.length t.c, .func (.func 99) #[] #[]] w (TrueP w) := by
  obtain ⟨sa, sc, xs⟩ := s
  obtain ⟨ta, tc, ys⟩ := t
  have HS := Lib.hid hs
  have H1 := Lib.hid h1
  have H2 := Lib.hid h2
  have HPp := Lib.hid HP
  have hl : xs.length ≤ maxLen := Nat.le_trans h1.2.1 h1.2.2
  have hlen : ys.length = xs.length := hs.length.symm
  unfold maxLen at hl
  clear h1 h2 hs HP
  dsimp only
  rw [hlen]
  have HLy := Lib.hid hlen
  clear hlen
  generalize hn : xs.length = N at *
  have HN := Lib.hid hn
  clear hn
  have hent := enters_listPart
  go_enter Tryz.func223, Tryz.ntmps223
  go_wp2_with fail
  go_loopg [17] N (fun g i wx => ∃ k : Nat, k + g = N ∧ i = .int .i64 k ∧ Below w.heap.size w wx)
  case atStart => exact ⟨0, by omega, rfl, Below.refl _ _⟩
  case round =>
    obtain ⟨k, hk, rfl, hb⟩ := hrel
    by_cases hlt : k < N
    · obtain ⟨g, rfl⟩ : ∃ g, gk = g + 1 := ⟨gk - 1, by omega⟩
      obtain ⟨p, hp⟩ : ∃ p : Sl α, xs[k]? = some p := ⟨_, List.getElem?_eq_getElem (by rw [HN.out]; exact hlt)⟩
      obtain ⟨q, hq⟩ : ∃ q : Sl β, ys[k]? = some q := ⟨_, List.getElem?_eq_getElem (by rw [HLy.out]; exact hlt)⟩
      have HC := Lib.hid (HPp.out p q (List.mem_of_getElem? hp) (List.mem_of_getElem? hq) (HS.out.get k p q hp hq))
      obtain ⟨b1, o1, e1, hb1, p0⟩ := wayRow (s := ⟨sa, sc, xs⟩) (H1.out.under hb) hp
      obtain ⟨b2, o2, e2, hb2, q0⟩ := wayRow (s := ⟨ta, tc, ys⟩) (H2.out.under hb) hq
      dsimp only at e1 e2
      subst e1 e2
      have hI : (k : Int) < (N : Int) := by omega
      have hI0 : (0 : Int) ≤ (k : Int) := by omega
      have HB := Lib.hid hb
      clear hp hq
      obtain ⟨pwa, pwc, pwx⟩ := p
      obtain ⟨qwa, qwc, qwx⟩ := q
      dsimp only at p0 q0
      have HC : Hid (∀ W, Below w.heap.size w W → Calls Tryz.prog 99 #[.slice pwa pwx.length pwc, .slice qwa qwx.length qwc] W (TrueP W)) := Lib.hid HC.out
      generalize pwx.length = l2 at *
      generalize qwx.length = l4 at *
      have HC2 := Lib.hid (HC.out wr HB.out)
      go_wp2_with (go_at_call 99; refine HC2.out.mono ?_; rintro e w3 ⟨rfl, hb3⟩)
      go_roundg g
      case measure => omega
      case rel => exact ⟨k + 1, by omega, by go_num, HB.out.trans (hb3.mono HB.out.size)⟩
    · have hI : ¬ (k : Int) < (N : Int) := by omega
      go_wp2_with fail
      go_ret
      exact ⟨rfl, hb⟩

set_option maxHeartbeats 1000000 in
set_option maxRecDepth 100000 in
theorem listWays_any {α β : Type} (R : Sl α → Sl β → Prop) (s : Sl (Sl α)) (t : Sl (Sl β)) (w : World) (h1 : SlHolds w 1 (fun s : Sl α => [s.val]) s) (h2 : SlHolds w 1 (fun s : Sl β => [s.val]) t) (hs : All2 R s.xs t.xs)
    (HP : ∀ (p : Sl α) (q : Sl β), p ∈ s.xs → q ∈ t.xs → R p q → ∀ W, Below w.heap.size w W → Calls Tryz.prog 99 #[.slice p.a p.xs.length p.c, .slice q.a q.xs.length q.c] W (TrueP W)) :
    Calls Tryz.prog 196 #[.slice s.a s.xs.length s.c, .slice t.a t.xs.length t.c] w (TrueP w) := by
  have HE := Lib.hid (equalWays_any R s t w h1 h2 hs HP)
  clear h1 h2 hs HP
  generalize s.xs.length = N at *
  generalize t.xs.length = N2 at *
  go_enter Tryz.func196, Tryz.ntmps196
  go_wp2_with (go_at_call 223; refine HE.out.mono ?_; rintro e w2 ⟨rfl, hb2⟩)
  go_ret
  exact ⟨rfl, hb2⟩
set_option maxHeartbeats 2000000 in
set_option maxRecDepth 100000 in
theorem eqPart_step (n m : Nat) (p : PartOf (P n)) (q : PartOf (P m)) (w : World) (hp : POk w (n + 1) p) (hq : POk w (m + 1) q) (h : SameP (n + 1) (m + 1) p q)
    (HW : ∀ W, Below w.heap.size w W → Calls Tryz.prog 196 #[.slice p.ways.a p.ways.xs.length p.ways.c, .slice q.ways.a q.ways.xs.length q.ways.c] W (TrueP W)) :
    Calls Tryz.prog 155 #[partVal p, partVal q] w (TrueP w) := by
  have HR := Lib.hid (fun W (hb : Below w.heap.size w W) => listRg_any p.rg q.rg W (hp.2.1.under hb) (hq.2.1.under hb) h.2.2.2.1)
  have HWw := Lib.hid HW
  clear hp hq HW
  obtain ⟨pk, pt3, pn, ⟨pra, prc, prx⟩, ⟨pwa, pwc, pwx⟩⟩ := p
  obtain ⟨qk, qt3, qn, ⟨qra, qrc, qrx⟩, ⟨qwa, qwc, qwx⟩⟩ := q
  have e1 : pk = qk := h.1
  have e2 : pt3 = qt3 := h.2.1
  have e3 : pn = qn := h.2.2.1
  clear h
  subst e1 e2 e3
  have HR : Hid (∀ W, Below w.heap.size w W → Calls Tryz.prog 195 #[.slice pra prx.length prc, .slice qra qrx.length qrc] W (TrueP W)) := Lib.hid HR.out
  have HWw : Hid (∀ W, Below w.heap.size w W → Calls Tryz.prog 196 #[.slice pwa pwx.length pwc, .slice qwa qwx.length qwc] W (TrueP W)) := Lib.hid HWw.out
  dsimp only [partVal]
  generalize prx.length = l1 at *
  generalize pwx.length = l2 at *
  generalize qrx.length = l3 at *
  generalize qwx.length = l4 at *
  have HB := Lib.hid (boxG_two w #[.int .i64 pk, .string pt3, .bool pn, .slice pra l1 prc, .slice pwa l2 pwc] #[.int .i64 pk, .string pt3, .bool pn, .slice qra l3 qrc, .slice qwa l4 qwc] party)
  go_enter Tryz.func155, Tryz.ntmps155
  go_upto_region 1 with fail
  generalize (w.alloc _).alloc _ = w1 at *
  have c0 := HB.out.1.cell (j := 0) rfl; have c1 := HB.out.1.cell (j := 1) rfl; have c2 := HB.out.1.cell (j := 2) rfl; have c3 := HB.out.1.cell (j := 3) rfl; have c4 := HB.out.1.cell (j := 4) rfl; have k0 := HB.out.2.1.cell (j := 0) rfl; have k1 := HB.out.2.1.cell (j := 1) rfl; have k2 := HB.out.2.1.cell (j := 2) rfl; have k3 := HB.out.2.1.cell (j := 3) rfl; have k4 := HB.out.2.1.cell (j := 4) rfl
  go_wp2_with (first | (go_at_call 195; refine (HR.out _ HB.out.2.2.1).mono ?_; rintro e w2 ⟨rfl, hb2⟩; have HB2 := Lib.hid (And.intro (HB.out.1.under hb2) (And.intro (HB.out.2.1.under hb2) (bTrans HB.out.2.2.1 hb2))); have c0 := HB2.out.1.cell (j := 0) rfl; have c1 := HB2.out.1.cell (j := 1) rfl; have c2 := HB2.out.1.cell (j := 2) rfl; have c3 := HB2.out.1.cell (j := 3) rfl; have c4 := HB2.out.1.cell (j := 4) rfl; have k0 := HB2.out.2.1.cell (j := 0) rfl; have k1 := HB2.out.2.1.cell (j := 1) rfl; have k2 := HB2.out.2.1.cell (j := 2) rfl; have k3 := HB2.out.2.1.cell (j := 3) rfl; have k4 := HB2.out.2.1.cell (j := 4) rfl) | (go_at_call 196; refine (HWw.out _ HB2.out.2.2).mono ?_; rintro e w3 ⟨rfl, hb3⟩))
  go_ret
  exact ⟨rfl, bTrans HB2.out.2.2 hb3⟩
end Go.Proofs.YtfenmeacimfiaaaGreatDoor
namespace Go.Proofs.YtfenmeacimfiaaaGreatDoor
open Go.RowKit

set_option maxHeartbeats 1000000 in
set_option maxRecDepth 100000 in
theorem listPart_step (n m : Nat) (s : Sl (P (n + 1))) (t : Sl (P (m + 1))) (w : World) (h1 : SlHolds w 5 (partCells (n + 1)) s) (h2 : SlHolds w 5 (partCells (m + 1)) t) (hs : SameL (n + 1) (m + 1) s.xs t.xs)
    (HP : ∀ (p : PartOf (P n)) (q : PartOf (P m)), p ∈ s.xs → q ∈ t.xs → SameP (n + 1) (m + 1) p q → ∀ W, Below w.heap.size w W → Calls Tryz.prog 155 #[partVal p, partVal q] W (TrueP W)) :
    Calls Tryz.prog 99 #[.slice s.a s.xs.length s.c, .slice t.a t.xs.length t.c] w (TrueP w) := by
  have HE := Lib.hid (equalParts_any n m s t w h1 h2 hs HP)
  clear h1 h2 hs HP
  generalize s.xs.length = N at *
  generalize t.xs.length = N2 at *
  go_enter Tryz.func99, Tryz.ntmps99
  go_wp2_with (go_at_call 154; refine HE.out.mono ?_; rintro e w2 ⟨rfl, hb2⟩)
  go_ret
  exact ⟨rfl, hb2⟩
/-- Lists of parts that hold nothing. -/
theorem listPart_none {n m : Nat} (s : Sl (P n)) (t : Sl (P m)) (w : World) (h1 : SOk w n s) (h2 : SOk w m t) (hs : s.xs = []) (ht : t.xs = []) :
    Calls Tryz.prog 99 #[.slice s.a s.xs.length s.c, .slice t.a t.xs.length t.c] w (TrueP w) := by
  have l1 := h1.1.2
  have l2 := h2.1.2
  have := listPart_step 0 0 (⟨s.a, s.c, []⟩ : Sl (P 1)) (⟨t.a, t.c, []⟩ : Sl (P 1)) w ⟨.inl rfl, Nat.zero_le _, l1.2⟩ ⟨.inl rfl, Nat.zero_le _, l2.2⟩ .nil (fun p q hp _ _ => by cases hp)
  rw [hs, ht]
  exact this
theorem listPart_any : ∀ (n m : Nat) (s : Sl (P n)) (t : Sl (P m)) (w : World), SOk w n s → SOk w m t → SameL n m s.xs t.xs →
    Calls Tryz.prog 99 #[.slice s.a s.xs.length s.c, .slice t.a t.xs.length t.c] w (TrueP w)
  | 0, m, s, t, w, h1, h2, h => listPart_none s t w h1 h2 (noP s.xs) h.zl
  | n + 1, 0, s, t, w, h1, h2, h => listPart_none s t w h1 h2 h.zr (noP t.xs)
  | n + 1, m + 1, s, t, w, h1, h2, h => by
    refine listPart_step n m s t w h1.1 h2.1 h (fun p q hp hq hpq W hb => ?_)
    have o1 := POk.under (hb.mono (Nat.le_refl _)) (n + 1) p (h1.2 p hp)
    have o2 := POk.under (hb.mono (Nat.le_refl _)) (m + 1) q (h2.2 q hq)
    refine eqPart_step n m p q W o1 o2 hpq (fun W2 hb2 => ?_)
    have o3 := POk.under hb2 (n + 1) p o1
    have o4 := POk.under hb2 (m + 1) q o2
    refine listWays_any (fun s t => SameL n m s.xs t.xs) p.ways q.ways W2 o3.2.2.2.1 o4.2.2.2.1 hpq.2.2.2.2 (fun u v hu hv huv W3 hb3 => ?_)
    have k1 : SOk W2 n u := o3.2.2.2.2 u hu
    have k2 : SOk W2 m v := o4.2.2.2.2 v hv
    exact listPart_any n m u v W3 (k1.under hb3) (k2.under hb3) huv

set_option maxHeartbeats 1000000 in
set_option maxRecDepth 100000 in
theorem eqGlob_any (n m : Nat) (s : Sl (P n)) (t : Sl (P m)) (rooted dirs : Bool) (w : World) (h1 : SOk w n s) (h2 : SOk w m t) (h : SameL n m s.xs t.xs) :
    Calls Tryz.prog 41 #[.agg #[.bool rooted, .bool dirs, .slice s.a s.xs.length s.c], .agg #[.bool rooted, .bool dirs, .slice t.a t.xs.length t.c]] w (TrueP w) := by
  have HR := Lib.hid (fun W (hb : Below w.heap.size w W) => listPart_any n m s t W (h1.under hb) (h2.under hb) h)
  clear h1 h2 h
  obtain ⟨sa, sc, xs⟩ := s
  obtain ⟨ta, tc, ys⟩ := t
  have HR : Hid (∀ W, Below w.heap.size w W → Calls Tryz.prog 99 #[.slice sa xs.length sc, .slice ta ys.length tc] W (TrueP W)) := Lib.hid HR.out
  dsimp only
  generalize xs.length = l1 at *
  generalize ys.length = l2 at *
  have HB := Lib.hid (boxG_two w #[.bool rooted, .bool dirs, .slice sa l1 sc] #[.bool rooted, .bool dirs, .slice ta l2 tc] 34)
  go_enter Tryz.func41, Tryz.ntmps41
  go_upto_region 1 with fail
  generalize (w.alloc _).alloc _ = w1 at *
  have c0 := HB.out.1.cell (j := 0) rfl; have c1 := HB.out.1.cell (j := 1) rfl; have c2 := HB.out.1.cell (j := 2) rfl; have k0 := HB.out.2.1.cell (j := 0) rfl; have k1 := HB.out.2.1.cell (j := 1) rfl; have k2 := HB.out.2.1.cell (j := 2) rfl
  go_wp2_with (go_at_call 99; refine (HR.out _ HB.out.2.2.1).mono ?_; rintro e w2 ⟨rfl, hb2⟩)
  go_ret
  exact ⟨rfl, bTrans HB.out.2.2.1 hb2⟩
end Go.Proofs.YtfenmeacimfiaaaGreatDoor
namespace Go.Proofs.YtfenmeacimfiaaaGreatDoor
open Go.RowKit

theorem globAs0 (v : Value) (w : World) : (Instr.typeAssert (.iface 34 v) 20 62 true).run Tryz.prog w = .ok (.tuple #[.agg #[.int .i64 0, .int .i64 0, .slice none 0 0, .slice none 0 0], .bool false]) w := by kernel_rfl
theorem globAs1 (v : Value) (w : World) : (Instr.typeAssert (.iface 34 v) 20 60 true).run Tryz.prog w = .ok (.tuple #[.slice none 0 0, .bool false]) w := by kernel_rfl
theorem globAs2 (v : Value) (w : World) : (Instr.typeAssert (.iface 34 v) 20 67 true).run Tryz.prog w = .ok (.tuple #[.slice none 0 0, .bool false]) w := by kernel_rfl
theorem globAs3 (v : Value) (w : World) : (Instr.typeAssert (.iface 34 v) 20 70 true).run Tryz.prog w = .ok (.tuple #[.slice none 0 0, .bool false]) w := by kernel_rfl
theorem globAs4 (v : Value) (w : World) : (Instr.typeAssert (.iface 34 v) 20 73 true).run Tryz.prog w = .ok (.tuple #[.slice none 0 0, .bool false]) w := by kernel_rfl
theorem globAs5 (v : Value) (w : World) : (Instr.typeAssert (.iface 34 v) 20 78 true).run Tryz.prog w = .ok (.tuple #[.agg #[.slice none 0 0, .slice none 0 0, .slice none 0 0, .slice none 0 0], .bool false]) w := by kernel_rfl
theorem globAs6 (v : Value) (w : World) : (Instr.typeAssert (.iface 34 v) 20 84 true).run Tryz.prog w = .ok (.tuple #[.agg #[.slice none 0 0, .slice none 0 0, .int .i64 0, .int .i64 0, .int .i64 0], .bool false]) w := by kernel_rfl
theorem globAs7 (v : Value) (w : World) : (Instr.typeAssert (.iface 34 v) 20 90 true).run Tryz.prog w = .ok (.tuple #[.agg #[.string ByteArray.empty, .bool false, .int .i64 0, .int .i64 0, .slice none 0 0, .slice none 0 0, .string ByteArray.empty], .bool false]) w := by kernel_rfl
theorem globAs8 (v : Value) (w : World) : (Instr.typeAssert (.iface 34 v) 20 93 true).run Tryz.prog w = .ok (.tuple #[.slice none 0 0, .bool false]) w := by kernel_rfl
theorem globAs9 (v : Value) (w : World) : (Instr.typeAssert (.iface 34 v) 20 49 true).run Tryz.prog w = .ok (.tuple #[.slice none 0 0, .bool false]) w := by kernel_rfl
theorem globAs10 (v : Value) (w : World) : (Instr.typeAssert (.iface 34 v) 20 98 true).run Tryz.prog w = .ok (.tuple #[.slice none 0 0, .bool false]) w := by kernel_rfl
theorem globAs11 (v : Value) (w : World) : (Instr.typeAssert (.iface 34 v) 20 81 true).run Tryz.prog w = .ok (.tuple #[.slice none 0 0, .bool false]) w := by kernel_rfl
theorem globAsGlob (v : Value) (w : World) : (Instr.typeAssert (.iface 34 v) 20 34 true).run Tryz.prog w = .ok (.tuple #[v, .bool true]) w := by kernel_rfl

set_option maxHeartbeats 4000000 in
set_option maxRecDepth 100000 in
theorem alikeGlob_any (n m : Nat) (s : Sl (P n)) (t : Sl (P m)) (rooted dirs : Bool) (w : World) (h1 : SOk w n s) (h2 : SOk w m t) (h : SameL n m s.xs t.xs) :
    Calls Tryz.prog 11 #[.iface 34 (.agg #[.bool rooted, .bool dirs, .slice s.a s.xs.length s.c]), .iface 34 (.agg #[.bool rooted, .bool dirs, .slice t.a t.xs.length t.c])] w (TrueP w) := by
  have HK := Lib.hid (fun W (hb : Below w.heap.size w W) => eqGlob_any n m s t rooted dirs W (h1.under hb) (h2.under hb) h)
  clear h1 h2 h
  obtain ⟨sa, sc, xs⟩ := s
  obtain ⟨ta, tc, ys⟩ := t
  have HK : Hid (∀ W, Below w.heap.size w W → Calls Tryz.prog 41 #[.agg #[.bool rooted, .bool dirs, .slice sa xs.length sc], .agg #[.bool rooted, .bool dirs, .slice ta ys.length tc]] W (TrueP W)) := Lib.hid HK.out
  dsimp only
  generalize xs.length = l1 at *
  generalize ys.length = l2 at *
  have HB := Lib.hid (boxG_two w #[.bool rooted, .bool dirs, .slice sa l1 sc] #[.bool rooted, .bool dirs, .slice ta l2 tc] 34)
  have has0 := @globAs0
  have has1 := @globAs1
  have has2 := @globAs2
  have has3 := @globAs3
  have has4 := @globAs4
  have has5 := @globAs5
  have has6 := @globAs6
  have has7 := @globAs7
  have has8 := @globAs8
  have has9 := @globAs9
  have has10 := @globAs10
  have has11 := @globAs11
  have hasG := @globAsGlob
  go_enter Tryz.func11, Tryz.ntmps11
  go_upto_region 53 with fail
  generalize (w.alloc _).alloc _ = w1 at *
  have c0 := HB.out.1.cell (j := 0) rfl; have c1 := HB.out.1.cell (j := 1) rfl; have c2 := HB.out.1.cell (j := 2) rfl; have k0 := HB.out.2.1.cell (j := 0) rfl; have k1 := HB.out.2.1.cell (j := 1) rfl; have k2 := HB.out.2.1.cell (j := 2) rfl
  go_wp2_with (go_at_call 41; refine (HK.out _ HB.out.2.2.1).mono ?_; rintro e w2 ⟨rfl, hb2⟩)
  go_ret
  exact ⟨rfl, bTrans HB.out.2.2.1 hb2⟩
end Go.Proofs.YtfenmeacimfiaaaGreatDoor
namespace Go.Proofs.YtfenmeacimfiaaaGreatDoor
open Go.RowKit

/-- What PrintGlob returns. -/
def prS (rooted dirs : Bool) (n : Nat) (xs : List (P n)) : ByteArray := if ckG rooted dirs n xs = 0 then ⟨(gtxtN rooted dirs n xs).toArray⟩ else ⟨#[]⟩
abbrev PrPost (rooted dirs : Bool) (n : Nat) (xs : List (P n)) (w : World) (e : Ending) (w' : World) : Prop := e = .returned (.tuple #[.string (prS rooted dirs n xs), .int .i64 (ckG rooted dirs n xs)]) ∧ Below w.heap.size w w'
theorem text_of (n : Nat) (s : Sl (P n)) (rooted dirs : Bool) (W : World) (hs : SOk W n s) (hz : szL n s.xs ≤ 1048576) (h : ckG rooted dirs n s.xs = 0) :
    (Calls Tryz.prog 55 #[globVal rooted dirs s] W fun e w' => e = .returned (.string ⟨(gtxtN rooted dirs n s.xs).toArray⟩) ∧ Below W.heap.size W w') ∧ (Calls Tryz.prog 54 #[globVal rooted dirs s] W fun e w' => e = .returned (.string ⟨(gtxtN rooted dirs n s.xs).toArray⟩) ∧ Below W.heap.size W w') := by
  obtain ⟨_, _, _, hg, hne⟩ := ckG_rt h
  cases n with
  | zero => exact absurd (noP s.xs) hne
  | succ n =>
    refine ⟨globText_any n s rooted dirs W hs hg hne hz, ?_⟩
    rw [← gtxt_eq rooted dirs (n + 1) s.xs hg hne]
    exact showGlob_any n s rooted dirs W hs hg hz

set_option maxHeartbeats 1000000 in
set_option maxRecDepth 100000 in
theorem printGlob_any (n : Nat) (s : Sl (P n)) (rooted dirs : Bool) (w : World) (hs : SOk w n s) (hz : szL n s.xs ≤ 1048576) :
    Calls Tryz.prog 15 #[globVal rooted dirs s] w (PrPost rooted dirs n s.xs w) := by
  have HC := Lib.hid (fun W (hb : Below w.heap.size w W) => checkGlob_any n s rooted dirs W (hs.under hb) hz)
  have HT := Lib.hid (fun W (hb : Below w.heap.size w W) h => (text_of n s rooted dirs W (hs.under hb) hz h).1)
  clear hs hz
  unfold PrPost prS
  obtain ⟨ce, hce⟩ : ∃ ce, ckG rooted dirs n s.xs = ce := ⟨_, rfl⟩
  rw [hce] at HC HT ⊢
  clear hce
  generalize (⟨(gtxtN rooted dirs n s.xs).toArray⟩ : ByteArray) = TX at *
  obtain ⟨sa, sc, xs⟩ := s
  dsimp only [globVal]
  have HC : Hid (∀ W, Below w.heap.size w W → Calls Tryz.prog 16 #[.agg #[.bool rooted, .bool dirs, .slice sa xs.length sc]] W fun e w' => e = .returned (.int .i64 ce) ∧ Below W.heap.size W w') := Lib.hid HC.out
  have HT : Hid (∀ W, Below w.heap.size w W → ce = 0 → Calls Tryz.prog 55 #[.agg #[.bool rooted, .bool dirs, .slice sa xs.length sc]] W fun e w' => e = .returned (.string TX) ∧ Below W.heap.size W w') := Lib.hid HT.out
  generalize xs.length = N at *
  have HB := Lib.hid (bAlloc (Below.refl w.heap.size w) (.cells #[.bool rooted, .bool dirs, .slice sa N sc] 34))
  have HX := Lib.hid (BoxIs.new w #[.bool rooted, .bool dirs, .slice sa N sc] 34)
  go_enter Tryz.func15, Tryz.ntmps15
  go_upto_region 1 with fail
  generalize w.alloc _ = w1 at *
  have c0 := HX.out.cell (j := 0) rfl
  have c1 := HX.out.cell (j := 1) rfl
  have c2 := HX.out.cell (j := 2) rfl
  have HC1 := Lib.hid (HC.out w1 HB.out)
  go_upto_region 2 with (go_at_call 16; refine HC1.out.mono ?_; rintro e w2 ⟨rfl, hb2⟩; have HB2 := Lib.hid (HB.out.trans (hb2.mono HB.out.size)); have HX2 := Lib.hid (HX.out.under hb2); clear hb2)
  clear c0 c1 c2
  have c0 := HX2.out.cell (j := 0) rfl
  have c1 := HX2.out.cell (j := 1) rfl
  have c2 := HX2.out.cell (j := 2) rfl
  by_cases h0 : ce = 0
  · subst h0
    have HT2 := Lib.hid (HT.out w2 HB2.out rfl)
    go_wp2_with (go_at_call 55; refine HT2.out.mono ?_; rintro e w3 ⟨rfl, hb3⟩)
    go_ret2
    exact ⟨rfl, HB2.out.trans (hb3.mono HB2.out.size)⟩
  · have hz : (ce == 0) = false := by simpa using h0
    have H0 := Lib.hid h0
    clear h0
    go_wp2_with fail
    go_ret2
    first | exact ⟨rfl, HB2.out⟩ | exact ⟨by rw [if_neg H0.out]; rfl, HB2.out⟩
set_option maxHeartbeats 1000000 in
set_option maxRecDepth 100000 in
theorem refPrintGlob_any (n : Nat) (s : Sl (P n)) (rooted dirs : Bool) (w : World) (hs : SOk w n s) (hz : szL n s.xs ≤ 1048576) :
    Calls Tryz.prog 17 #[globVal rooted dirs s] w (PrPost rooted dirs n s.xs w) := by
  have HC := Lib.hid (fun W (hb : Below w.heap.size w W) => refCheckGlob_any n s rooted dirs W (hs.under hb) hz)
  have HT := Lib.hid (fun W (hb : Below w.heap.size w W) h => (text_of n s rooted dirs W (hs.under hb) hz h).2)
  clear hs hz
  unfold PrPost prS
  obtain ⟨ce, hce⟩ : ∃ ce, ckG rooted dirs n s.xs = ce := ⟨_, rfl⟩
  rw [hce] at HC HT ⊢
  clear hce
  generalize (⟨(gtxtN rooted dirs n s.xs).toArray⟩ : ByteArray) = TX at *
  obtain ⟨sa, sc, xs⟩ := s
  dsimp only [globVal]
  have HC : Hid (∀ W, Below w.heap.size w W → Calls Tryz.prog 14 #[.agg #[.bool rooted, .bool dirs, .slice sa xs.length sc]] W fun e w' => e = .returned (.int .i64 ce) ∧ Below W.heap.size W w') := Lib.hid HC.out
  have HT : Hid (∀ W, Below w.heap.size w W → ce = 0 → Calls Tryz.prog 54 #[.agg #[.bool rooted, .bool dirs, .slice sa xs.length sc]] W fun e w' => e = .returned (.string TX) ∧ Below W.heap.size W w') := Lib.hid HT.out
  generalize xs.length = N at *
  have HB := Lib.hid (bAlloc (Below.refl w.heap.size w) (.cells #[.bool rooted, .bool dirs, .slice sa N sc] 34))
  have HX := Lib.hid (BoxIs.new w #[.bool rooted, .bool dirs, .slice sa N sc] 34)
  go_enter Tryz.func17, Tryz.ntmps17
  go_upto_region 1 with fail
  generalize w.alloc _ = w1 at *
  have c0 := HX.out.cell (j := 0) rfl
  have c1 := HX.out.cell (j := 1) rfl
  have c2 := HX.out.cell (j := 2) rfl
  have HC1 := Lib.hid (HC.out w1 HB.out)
  go_upto_region 2 with (go_at_call 14; refine HC1.out.mono ?_; rintro e w2 ⟨rfl, hb2⟩; have HB2 := Lib.hid (HB.out.trans (hb2.mono HB.out.size)); have HX2 := Lib.hid (HX.out.under hb2); clear hb2)
  clear c0 c1 c2
  have c0 := HX2.out.cell (j := 0) rfl
  have c1 := HX2.out.cell (j := 1) rfl
  have c2 := HX2.out.cell (j := 2) rfl
  by_cases h0 : ce = 0
  · subst h0
    have HT2 := Lib.hid (HT.out w2 HB2.out rfl)
    go_wp2_with (go_at_call 54; refine HT2.out.mono ?_; rintro e w3 ⟨rfl, hb3⟩)
    go_ret2
    exact ⟨rfl, HB2.out.trans (hb3.mono HB2.out.size)⟩
  · have hz : (ce == 0) = false := by simpa using h0
    have H0 := Lib.hid h0
    clear h0
    go_wp2_with fail
    go_ret2
    first | exact ⟨rfl, HB2.out⟩ | exact ⟨by rw [if_neg H0.out]; rfl, HB2.out⟩
end Go.Proofs.YtfenmeacimfiaaaGreatDoor
namespace Go.Proofs.YtfenmeacimfiaaaGreatDoor
open Go.RowKit

/-- ParseGlob of what is printed of a right glob. -/
theorem parse_printed (n : Nat) (s : Sl (P n)) (rooted dirs : Bool) (h : ckG rooted dirs n s.xs = 0) (w : World) (hE : Env w) :
    Calls Tryz.prog 12 #[.string ⟨(gtxtN rooted dirs n s.xs).toArray⟩] w fun e w' => Below w.heap.size w w' ∧ ∃ (m : Nat) (t : Sl (P m)), SOk w' m t ∧ SameL n m s.xs t.xs ∧ e = .returned (.tuple #[.agg (glV rooted dirs t.a t.xs.length t.c), .int .i64 0, .int .i64 0]) := by
  obtain ⟨hcl, hrd, hlen, hg, hne⟩ := ckG_rt h
  have hsz : (⟨(gtxtN rooted dirs n s.xs).toArray⟩ : ByteArray).size = (gtxtN rooted dirs n s.xs).length := by rw [Lib.size_eq]
  have hnz : gtxtN rooted dirs n s.xs ≠ [] := fun e => by
    rw [e] at hrd
    rw [show Wh.G.readG [] = Wh.G.GR.err 0 from by unfold Wh.G.readG Wh.G.bodyOf Wh.G.rootOf Wh.G.plainG Wh.G.bodyOf Wh.G.rootOf; simp [Wh.G.PL_nil]] at hrd
    cases hrd
  have hl0 : 0 < (gtxtN rooted dirs n s.xs).length := List.length_pos_iff.2 hnz
  refine (parseGlob_any ((⟨(gtxtN rooted dirs n s.xs).toArray⟩ : ByteArray).size + 1) _ w (by rw [hsz]; unfold maxLen; omega) (Nat.lt_succ_self _) hE).mono ?_
  rintro e w' ⟨v, rfl, hb, hp⟩
  unfold PgPost at hp
  rw [if_neg (by rw [hsz]; omega), if_neg (by rw [hsz]; omega)] at hp
  have hrd2 : Wh.G.readG (⟨(gtxtN rooted dirs n s.xs).toArray⟩ : ByteArray).data.toList = .ok rooted dirs (gpL n s.xs) := hrd
  rw [hrd2] at hp
  obtain ⟨t, hm, hgp, hv⟩ := hp
  have hsame := gpL_same hcl hm.cl hgp.symm
  rw [if_pos (by rw [← ckG_same hsame]; exact h)] at hv
  exact ⟨hb, _, t, hm.ok, hsame, by rw [hv]⟩
end Go.Proofs.YtfenmeacimfiaaaGreatDoor
namespace Go.Proofs.YtfenmeacimfiaaaGreatDoor
open Go.RowKit

set_option maxHeartbeats 2000000 in
set_option maxRecDepth 100000 in
theorem globPrints_walk (n : Nat) (s : Sl (P n)) (rooted dirs : Bool) (w : World) (hE : Env w) (hs : SOk w n s) (hz : szL n s.xs ≤ 1048576) :
    Calls Tryz.prog 5 #[globVal rooted dirs s] w (TrueP w) := by
  have HE := Lib.hid hE
  have HS := Lib.hid hs
  have HL := Lib.hid (fun W (hb : Below w.heap.size w W) => landed_any W (hE.under hb))
  have HRC := Lib.hid (fun W (hb : Below w.heap.size w W) => refCheckGlob_any n s rooted dirs W (hs.under hb) hz)
  have HNC := Lib.hid (fun W (hb : Below w.heap.size w W) => checkGlob_any n s rooted dirs W (hs.under hb) hz)
  have HNP := Lib.hid (fun W (hb : Below w.heap.size w W) => printGlob_any n s rooted dirs W (hs.under hb) hz)
  have HRP := Lib.hid (fun W (hb : Below w.heap.size w W) => refPrintGlob_any n s rooted dirs W (hs.under hb) hz)
  have HPG := Lib.hid (fun W (hb : Below w.heap.size w W) h => parse_printed n s rooted dirs h W (hE.under hb))
  have HAl := Lib.hid (fun W (hb : Below w.heap.size w W) (m : Nat) (t : Sl (P m)) (ht : SOk W m t) (h : SameL n m s.xs t.xs) => alikeGlob_any n m s t rooted dirs W (hs.under hb) ht h)
  clear hE hs hz
  have HPr : Hid (ckG rooted dirs n s.xs = 0 → prS rooted dirs n s.xs = ⟨(gtxtN rooted dirs n s.xs).toArray⟩) := Lib.hid (fun h => by unfold prS; rw [if_pos h])
  have HPr0 : Hid (ckG rooted dirs n s.xs ≠ 0 → prS rooted dirs n s.xs = ⟨#[]⟩) := Lib.hid (fun h => by unfold prS; rw [if_neg h])
  unfold PrPost at HNP HRP
  generalize prS rooted dirs n s.xs = TP at *
  generalize (⟨(gtxtN rooted dirs n s.xs).toArray⟩ : ByteArray) = TX at *
  generalize ckG rooted dirs n s.xs = ce at *
  have HB1 := Lib.hid (bAlloc (Below.refl w.heap.size w) (.cells (globArr rooted dirs s) 34))
  have HX1 := Lib.hid (BoxIs.new w (globArr rooted dirs s) 34)
  go_enter Tryz.func5, Tryz.ntmps5
  go_upto_region 1 with fail
  generalize w.alloc _ = w1 at *
  go_wp2_with fail
  refine (HL.out _ HB1.out).mono ?_
  rintro e w2 ⟨rfl, hb2⟩
  have HB2 := Lib.hid (HB1.out.trans (hb2.mono HB1.out.size))
  have HX2 := Lib.hid (HX1.out.under hb2)
  clear hb2
  have c0 := HX2.out.cell (j := 0) rfl
  have c1 := HX2.out.cell (j := 1) rfl
  have c2 := HX2.out.cell (j := 2) rfl
  go_wp2_with fail
  refine (HRC.out _ HB2.out).mono ?_
  rintro e w3 ⟨rfl, hb3⟩
  have HB3 := Lib.hid (HB2.out.trans (hb3.mono HB2.out.size))
  have HX3 := Lib.hid (HX2.out.under hb3)
  clear c0 c1 c2 hb3
  have c0 := HX3.out.cell (j := 0) rfl
  have c1 := HX3.out.cell (j := 1) rfl
  have c2 := HX3.out.cell (j := 2) rfl
  go_wp2_with fail
  refine (HNP.out _ HB3.out).mono ?_
  rintro e w4 ⟨rfl, hb4⟩
  have HB4 := Lib.hid (HB3.out.trans (hb4.mono HB3.out.size))
  have HX4 := Lib.hid (HX3.out.under hb4)
  clear c0 c1 c2 hb4
  have c0 := HX4.out.cell (j := 0) rfl
  have c1 := HX4.out.cell (j := 1) rfl
  have c2 := HX4.out.cell (j := 2) rfl
  go_wp2_with fail
  refine (HNC.out _ HB4.out).mono ?_
  rintro e w5 ⟨rfl, hb5⟩
  have HB5 := Lib.hid (HB4.out.trans (hb5.mono HB4.out.size))
  have HX5 := Lib.hid (HX4.out.under hb5)
  clear c0 c1 c2 hb5
  have c0 := HX5.out.cell (j := 0) rfl
  have c1 := HX5.out.cell (j := 1) rfl
  have c2 := HX5.out.cell (j := 2) rfl
  by_cases h0 : ce = 0
  · subst h0
    have hTP := HPr.out rfl
    subst hTP
    go_wp2_with fail
    refine (HRP.out _ HB5.out).mono ?_
    rintro e w6 ⟨rfl, hb6⟩
    have HB6 := Lib.hid (HB5.out.trans (hb6.mono HB5.out.size))
    have HX6 := Lib.hid (HX5.out.under hb6)
    clear c0 c1 c2 hb6
    have c0 := HX6.out.cell (j := 0) rfl
    have c1 := HX6.out.cell (j := 1) rfl
    have c2 := HX6.out.cell (j := 2) rfl
    go_wp2_with fail
    refine (HPG.out _ HB6.out (by first | trivial | rfl)).mono ?_
    rintro e w7 ⟨hb7, m, t, ht, hsm, rfl⟩
    have HB7 := Lib.hid (HB6.out.trans (hb7.mono HB6.out.size))
    have HX7 := Lib.hid (HX6.out.under hb7)
    have HAl2 := Lib.hid (fun W (hb : Below w7.heap.size w7 W) => HAl.out W (HB7.out.trans (hb.mono HB7.out.size)) m t (SOk.under ht hb) hsm)
    clear c0 c1 c2 hb7 ht hsm
    obtain ⟨ta, tc, ys⟩ := t
    have HAl3 : Hid (∀ W, Below w7.heap.size w7 W → Calls Tryz.prog 11 #[.iface 34 (.agg #[.bool rooted, .bool dirs, .slice s.a s.xs.length s.c]), .iface 34 (.agg #[.bool rooted, .bool dirs, .slice ta ys.length tc])] W (TrueP W)) := Lib.hid HAl2.out
    have HB8 := Lib.hid (bAlloc (Below.refl w7.heap.size w7) (.cells #[.bool rooted, .bool dirs, .slice ta ys.length tc] glTy))
    have HY8 := Lib.hid (BoxIs.new w7 #[.bool rooted, .bool dirs, .slice ta ys.length tc] glTy)
    have HX8 := Lib.hid (HX7.out.under HB8.out)
    go_upto_region 11 with fail
    generalize w7.alloc _ = w8 at *
    have c0 := HX8.out.cell (j := 0) rfl
    have c1 := HX8.out.cell (j := 1) rfl
    have c2 := HX8.out.cell (j := 2) rfl
    have k0 := HY8.out.cell (j := 0) rfl
    have k1 := HY8.out.cell (j := 1) rfl
    have k2 := HY8.out.cell (j := 2) rfl
    go_wp2_with fail
    refine (HAl3.out _ HB8.out).mono ?_
    rintro e w9 ⟨rfl, hb9⟩
    go_wp2_with fail
    go_ret
    exact ⟨rfl, (HB7.out.trans (HB8.out.mono HB7.out.size)).trans (hb9.mono (Nat.le_trans HB7.out.size HB8.out.size))⟩
  · have hz : (ce == 0) = false := by simpa using h0
    have hTP := HPr0.out h0
    subst hTP
    clear h0
    go_wp2_with fail
    go_ret
    exact ⟨rfl, HB5.out⟩
end Go.Proofs.YtfenmeacimfiaaaGreatDoor
