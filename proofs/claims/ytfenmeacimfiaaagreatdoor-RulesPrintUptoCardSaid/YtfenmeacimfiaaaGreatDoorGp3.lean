/-
  What is printed of a glob's parts is read as the same parts, in plain words.
-/
import Derived.Test.YtfenmeacimfiaaaGreatDoorGp2
namespace Wh.G

def spc (d : Bool) (c : UInt8) : Bool := ([92, 42, 63, 91, 93, 123, 125] : List UInt8).contains c || (d && c == 44)
def esc1 (f : UInt8 → Bool) (c : UInt8) : List UInt8 := if f c then [92, c] else [c]
def escT (f : UInt8 → Bool) (l : List UInt8) : List UInt8 := l.flatMap (esc1 f)
def bndS (c : UInt8) : Bool := ([92, 93, 94, 45] : List UInt8).contains c
def bndT (n : Int) : List UInt8 := esc1 bndS (UInt8.ofNat n.toNat)
def rgTxt (r : Int × Int) : List UInt8 := bndT r.1 ++ (if r.1 + 1 < r.2 then [45] else []) ++ (if r.1 < r.2 then bndT r.2 else [])
def setTxt (neg : Bool) (rg : List (Int × Int)) : List UInt8 := [91] ++ (if neg then [94] else []) ++ rg.flatMap rgTxt ++ [93]
mutual
def ptxt (d : Bool) : GP → List UInt8
  | .text l => escT (spc d) l
  | .one => [63]
  | .star => [42]
  | .deep => [42, 42]
  | .set neg rg => setTxt neg rg
  | .ways l => 123 :: wtxt l
def ltxt (d : Bool) : List GP → List UInt8
  | [] => []
  | p :: r => ptxt d p ++ ltxt d r
def wtxt : List (List GP) → List UInt8
  | [] => [125]
  | x :: r => ltxt true x ++ vtxt r
/-- What follows a way. -/
def vtxt : List (List GP) → List UInt8
  | [] => [125]
  | x :: r => 44 :: (ltxt true x ++ vtxt r)
end
def isT : GP → Bool
  | .text _ => true
  | _ => false
def isS : GP → Bool
  | .star => true
  | .deep => true
  | _ => false
def okR (r : Int × Int) : Prop := (1 ≤ r.1 ∧ r.1 ≤ r.2 ∧ r.2 ≤ 255) ∧ ¬ (r.1 ≤ 47 ∧ 47 ≤ r.2)
mutual
def okP : GP → Prop
  | .text l => l ≠ [] ∧ ∀ b ∈ l, b ≠ 0
  | .one => True
  | .star => True
  | .deep => True
  | .set _ rg => rg ≠ [] ∧ Canon rg ∧ ∀ r ∈ rg, okR r
  | .ways l => l ≠ [] ∧ okW l
def okL (pt ps : Bool) : List GP → Prop
  | [] => True
  | p :: r => okP p ∧ (isT p = true → pt = false) ∧ (isS p = true → ps = false) ∧ okL (isT p) (isS p) r
def okW : List (List GP) → Prop
  | [] => True
  | x :: r => okL false false x ∧ okW r
end

def lastT : List GP → Bool
  | [] => false
  | [p] => isT p
  | _ :: r => lastT r
theorem lastT_snoc (a : List GP) (p : GP) : lastT (a ++ [p]) = isT p := by
  induction a with
  | nil => rfl
  | cons x a ih =>
    cases a with
    | nil => rfl
    | cons y a => exact ih
theorem addT_new : ∀ {a : List GP} (c : UInt8), lastT a = false → addT a c = a ++ [.text [c]]
  | [], _, _ => rfl
  | [x], c, h => by
    cases x with
    | text l => cases h
    | _ => rfl
  | x :: y :: r, c, h => by
    have : addT (x :: y :: r) c = x :: addT (y :: r) c := by
      cases x <;> rfl
    rw [this, addT_new (a := y :: r) c h]
    rfl
theorem addT_more : ∀ (a : List GP) (l : List UInt8) (c : UInt8), addT (a ++ [.text l]) c = a ++ [.text (l ++ [c])]
  | [], _, _ => rfl
  | [x], l, c => by cases x <;> rfl
  | x :: y :: r, l, c => by
    have h : ∀ z : List GP, addT (x :: y :: z) c = x :: addT (y :: z) c := fun z => by cases x <;> rfl
    show addT (x :: y :: (r ++ [.text l])) c = _
    rw [h]
    have := addT_more (y :: r) l c
    rw [show y :: (r ++ [GP.text l]) = (y :: r) ++ [.text l] from rfl, this]
    rfl
theorem addT_all (a : List GP) : ∀ (l m : List UInt8), l.foldl addT (a ++ [.text m]) = a ++ [.text (m ++ l)]
  | [], m => by simp
  | c :: l, m => by
    rw [List.foldl_cons, addT_more, addT_all a l (m ++ [c])]
    simp
theorem addT_text {a : List GP} (h : lastT a = false) {l : List UInt8} (hl : l ≠ []) : l.foldl addT a = a ++ [.text l] := by
  cases l with
  | nil => exact absurd rfl hl
  | cons c l =>
    rw [List.foldl_cons, addT_new c h, addT_all]
    rfl

theorem spc_no {d : Bool} {c : UInt8} (h : spc d c = false) : c ≠ 92 ∧ c ≠ 42 ∧ c ≠ 63 ∧ c ≠ 91 ∧ c ≠ 93 ∧ c ≠ 123 ∧ c ≠ 125 ∧ (d = true → c ≠ 44) := by
  unfold spc at h
  rw [Bool.or_eq_false_iff] at h
  have h1 : ∀ x ∈ ([92, 42, 63, 91, 93, 123, 125] : List UInt8), c ≠ x := fun x hx e => by
    subst e
    have : ([92, 42, 63, 91, 93, 123, 125] : List UInt8).contains c = true := List.contains_iff_mem.2 hx
    rw [h.1] at this
    cases this
  refine ⟨h1 92 (by simp), h1 42 (by simp), h1 63 (by simp), h1 91 (by simp), h1 93 (by simp), h1 123 (by simp), h1 125 (by simp), fun hd e => ?_⟩
  subst hd e
  exact absurd h.2 (by decide)
theorem byte_rt (d : Bool) (c : UInt8) (h0 : c ≠ 0) (acc : List GP) (rest : List UInt8) : PL d acc (esc1 (spc d) c ++ rest) = PL d (addT acc c) rest := by
  unfold esc1
  cases hs : spc d c
  · obtain ⟨h1, h2, h3, h4, h5, h6, h7, h8⟩ := spc_no hs
    rw [if_neg (by decide)]
    show PL d acc (c :: rest) = _
    rw [PL_cons, if_neg (fun ⟨hd, h⟩ => h.elim (h8 hd) h7), if_neg h3, if_neg h2, if_neg h4, if_neg h6, if_neg h1, if_neg (fun h => h.elim h0 (fun h => h.elim h5 h7))]
  · rw [if_pos rfl]
    show PL d acc (92 :: c :: rest) = _
    rw [PL_cons, if_neg (by rintro ⟨_, h | h⟩ <;> exact absurd h (by decide)), if_neg (by decide), if_neg (by decide), if_neg (by decide), if_neg (by decide), if_pos rfl]
    dsimp only
    rw [if_neg h0]
theorem text_rt (d : Bool) : ∀ (l : List UInt8), (∀ b ∈ l, b ≠ 0) → ∀ (acc : List GP) (rest : List UInt8), PL d acc (escT (spc d) l ++ rest) = PL d (l.foldl addT acc) rest
  | [], _, acc, rest => rfl
  | c :: l, h, acc, rest => by
    show PL d acc (esc1 (spc d) c ++ escT (spc d) l ++ rest) = _
    rw [List.append_assoc, byte_rt d c (h c (by simp)), text_rt d l (fun b hb => h b (by simp [hb]))]
    rfl

/-! Sets. -/
theorem bndS_no {c : UInt8} (h : bndS c = false) : c ≠ 92 ∧ c ≠ 93 ∧ c ≠ 94 ∧ c ≠ 45 := by
  have h1 : ∀ x ∈ ([92, 93, 94, 45] : List UInt8), c ≠ x := fun x hx e => by
    subst e
    have : ([92, 93, 94, 45] : List UInt8).contains c = true := List.contains_iff_mem.2 hx
    unfold bndS at h
    rw [h] at this
    cases this
  exact ⟨h1 92 (by simp), h1 93 (by simp), h1 94 (by simp), h1 45 (by simp)⟩
theorem bnd_rt (c : UInt8) (h0 : c ≠ 0) (h47 : c ≠ 47) (rest : List UInt8) : bnd (esc1 bndS c ++ rest) = .ok c rest := by
  unfold esc1
  cases hs : bndS c
  · obtain ⟨h1, h2, h3, h4⟩ := bndS_no hs
    rw [if_neg (by decide)]
    show bnd (c :: rest) = _
    simp only [bnd]
    rw [if_neg h1, if_neg (fun h => h.elim h0 (fun h => h.elim h2 (fun h => h.elim h3 (fun h => h.elim h4 h47))))]
  · rw [if_pos rfl]
    show bnd (92 :: c :: rest) = _
    simp only [bnd]
    rw [if_pos trivial, if_neg (fun h => h.elim h0 h47)]
theorem esc_head (c : UInt8) (rest : List UInt8) : (esc1 bndS c ++ rest).head? ≠ some 45 ∧ (esc1 bndS c ++ rest).head? ≠ some 93 ∧ (esc1 bndS c ++ rest).head? ≠ some 94 := by
  unfold esc1
  cases hs : bndS c
  · obtain ⟨h1, h2, h3, h4⟩ := bndS_no hs
    rw [if_neg (by decide)]
    refine ⟨?_, ?_, ?_⟩ <;> simp [h2, h3, h4]
  · rw [if_pos rfl]
    refine ⟨?_, ?_, ?_⟩ <;> simp
theorem u8_of {n : Int} (h1 : 1 ≤ n) (h2 : n ≤ 255) : ((UInt8.ofNat n.toNat).toNat : Int) = n := by
  rw [UInt8.toNat_ofNat', Nat.mod_eq_of_lt (by omega)]
  omega
theorem u8_ne {n : Int} (h1 : 1 ≤ n) (h2 : n ≤ 255) (h47 : n ≠ 47) : UInt8.ofNat n.toNat ≠ 0 ∧ UInt8.ofNat n.toNat ≠ 47 := by
  have h := u8_of h1 h2
  constructor
  · intro e
    rw [e] at h
    have : ((0 : UInt8).toNat : Int) = 0 := rfl
    omega
  · intro e
    rw [e] at h
    have : ((47 : UInt8).toNat : Int) = 47 := rfl
    omega
/-- A bound alone. -/
theorem rng_one {n : Int} (h1 : 1 ≤ n) (h2 : n ≤ 255) (h47 : n ≠ 47) {rest : List UInt8} (hr : rest.head? ≠ some 45) : rng (bndT n ++ rest) = .ok (n, n) rest := by
  obtain ⟨a, b⟩ := u8_ne h1 h2 h47
  unfold rng bndT
  rw [bnd_rt _ a b]
  dsimp only
  have hu := u8_of h1 h2
  cases rest with
  | nil => simp only [rng2]; rw [hu]
  | cons c r =>
    have hc : c ≠ 45 := fun e => hr (by rw [e]; rfl)
    unfold rng2
    split
    · rename_i e
      injection e with e
      exact absurd e hc
    · rw [hu]
/-- Two bounds with a hyphen. -/
theorem rng_two {n m : Int} (h1 : 1 ≤ n) (h2 : n ≤ m) (h3 : m ≤ 255) (h47 : n ≠ 47) (h47' : m ≠ 47) (rest : List UInt8) : rng (bndT n ++ 45 :: (bndT m ++ rest)) = .ok (n, m) rest := by
  obtain ⟨a, b⟩ := u8_ne h1 (by omega) h47
  obtain ⟨a', b'⟩ := u8_ne (n := m) (by omega) h3 h47'
  have hu := u8_of h1 (by omega : n ≤ 255)
  have hv := u8_of (n := m) (by omega) h3
  unfold rng bndT
  rw [bnd_rt _ a b]
  dsimp only
  simp only [rng2]
  rw [bnd_rt _ a' b']
  dsimp only
  rw [if_neg (by omega), hu, hv]
theorem setGo_step {n : Nat} {acc : List (Int × Int)} {l : List UInt8} (h : acc = [] ∨ l.head? ≠ some 93) {x : Int × Int} {q : List UInt8} (hr : rng l = .ok x q) : setGo (n + 1) acc l = setGo n (acc ++ [x]) q := by
  rw [setGo, if_neg (fun ⟨h1, h2⟩ => h.elim h1 (fun h => h h2)), hr]
theorem bndT_len (n : Int) : 1 ≤ (bndT n).length := by
  unfold bndT esc1
  split <;> simp
theorem set_rt : ∀ (rg : List (Int × Int)), (∀ r ∈ rg, okR r) → ∀ (n : Nat) (acc : List (Int × Int)) (rest : List UInt8), (acc ≠ [] ∨ rg ≠ []) → (rg.flatMap rgTxt ++ 93 :: rest).length < n → ∃ L, setGo n acc (rg.flatMap rgTxt ++ 93 :: rest) = .ok (acc ++ L) rest ∧ ∀ k, In k L ↔ In k rg
  | [], _, n, acc, rest, hne, hn => by
    obtain ⟨n, rfl⟩ : ∃ k, n = k + 1 := ⟨n - 1, by omega⟩
    refine ⟨[], ?_, fun k => Iff.rfl⟩
    have : acc ≠ [] := hne.elim id (fun h => absurd rfl h)
    show setGo (n + 1) acc (93 :: rest) = _
    rw [setGo, if_pos ⟨this, rfl⟩, List.append_nil]
    rfl
  | r :: rg, h, n, acc, rest, _, hn => by
    obtain ⟨⟨a1, a2, a3⟩, a4⟩ := h r (by simp)
    have n1 : r.1 ≠ 47 := fun e => a4 ⟨by omega, by omega⟩
    have n2 : r.2 ≠ 47 := fun e => a4 ⟨by omega, by omega⟩
    have hh : ∀ (x : Int) (s : List UInt8), (bndT x ++ s).head? ≠ some 45 ∧ (bndT x ++ s).head? ≠ some 93 := fun x s => ⟨(esc_head _ s).1, (esc_head _ s).2.1⟩
    have hnext : ((rg.flatMap rgTxt ++ 93 :: rest).head? ≠ some 45) := by
      cases rg with
      | nil => simp
      | cons y rg =>
        show ((rgTxt y ++ rg.flatMap rgTxt) ++ 93 :: rest).head? ≠ some 45
        unfold rgTxt
        rw [List.append_assoc, List.append_assoc, List.append_assoc]
        exact (hh _ _).1
    have hhead : ∀ s, (rgTxt r ++ s).head? ≠ some 93 := fun s => by
      unfold rgTxt
      rw [List.append_assoc, List.append_assoc]
      exact (hh _ _).2
    have hL : ((r :: rg).flatMap rgTxt ++ 93 :: rest) = rgTxt r ++ (rg.flatMap rgTxt ++ 93 :: rest) := by rw [List.flatMap_cons, List.append_assoc]
    rw [hL] at hn ⊢
    have hb1 := bndT_len r.1
    have hb2 := bndT_len r.2
    by_cases c1 : r.1 + 1 < r.2
    · have hx : rgTxt r = bndT r.1 ++ 45 :: bndT r.2 := by
        unfold rgTxt
        rw [if_pos c1, if_pos (by omega)]
        simp
      rw [hx] at hn
      simp only [List.length_append, List.length_cons] at hn
      obtain ⟨n, rfl⟩ : ∃ k, n = k + 1 := ⟨n - 1, by omega⟩
      have e1 : rng (rgTxt r ++ (rg.flatMap rgTxt ++ 93 :: rest)) = .ok (r.1, r.2) (rg.flatMap rgTxt ++ 93 :: rest) := by
        rw [hx, List.append_assoc]
        exact rng_two a1 (by omega) a3 n1 n2 _
      obtain ⟨L, k1, k2⟩ := set_rt rg (fun y hy => h y (by simp [hy])) n (acc ++ [(r.1, r.2)]) rest (.inl (by simp)) (by simp only [List.length_append, List.length_cons]; omega)
      refine ⟨(r.1, r.2) :: L, ?_, fun k => ?_⟩
      · rw [setGo_step (.inr (hhead _)) e1, k1]
        simp
      · rw [in_cons, in_cons, k2]
    · by_cases c2 : r.1 < r.2
      · have hx : rgTxt r = bndT r.1 ++ bndT r.2 := by
          unfold rgTxt
          rw [if_neg c1, if_pos c2]
          simp
        rw [hx] at hn
        simp only [List.length_append, List.length_cons] at hn
        obtain ⟨n, rfl⟩ : ∃ k, n = k + 1 + 1 := ⟨n - 2, by omega⟩
        have e1 : rng (rgTxt r ++ (rg.flatMap rgTxt ++ 93 :: rest)) = .ok (r.1, r.1) (bndT r.2 ++ (rg.flatMap rgTxt ++ 93 :: rest)) := by
          rw [hx, List.append_assoc]
          exact rng_one a1 (by omega) n1 (hh _ _).1
        have e2 : rng (bndT r.2 ++ (rg.flatMap rgTxt ++ 93 :: rest)) = .ok (r.2, r.2) (rg.flatMap rgTxt ++ 93 :: rest) := rng_one (by omega) a3 n2 hnext
        obtain ⟨L, k1, k2⟩ := set_rt rg (fun y hy => h y (by simp [hy])) n (acc ++ [(r.1, r.1)] ++ [(r.2, r.2)]) rest (.inl (by simp)) (by simp only [List.length_append, List.length_cons]; omega)
        refine ⟨(r.1, r.1) :: (r.2, r.2) :: L, ?_, fun k => ?_⟩
        · rw [setGo_step (.inr (hhead _)) e1, setGo_step (.inr (hh _ _).2) e2, k1]
          simp
        · rw [in_cons, in_cons, in_cons, k2]
          dsimp only
          constructor
          · rintro (h | h | h)
            · exact .inl (by omega)
            · exact .inl (by omega)
            · exact .inr h
          · rintro (h | h)
            · rcases (by omega : k = r.1 ∨ k = r.2) with rfl | rfl
              · exact .inl (by omega)
              · exact .inr (.inl (by omega))
            · exact .inr (.inr h)
      · have c3 : r.1 = r.2 := by omega
        have hx : rgTxt r = bndT r.1 := by
          unfold rgTxt
          rw [if_neg c1, if_neg c2]
          simp
        rw [hx] at hn
        simp only [List.length_append, List.length_cons] at hn
        obtain ⟨n, rfl⟩ : ∃ k, n = k + 1 := ⟨n - 1, by omega⟩
        have e1 : rng (rgTxt r ++ (rg.flatMap rgTxt ++ 93 :: rest)) = .ok (r.1, r.1) (rg.flatMap rgTxt ++ 93 :: rest) := by
          rw [hx]
          exact rng_one a1 (by omega) n1 hnext
        obtain ⟨L, k1, k2⟩ := set_rt rg (fun y hy => h y (by simp [hy])) n (acc ++ [(r.1, r.1)]) rest (.inl (by simp)) (by simp only [List.length_append, List.length_cons]; omega)
        refine ⟨(r.1, r.1) :: L, ?_, fun k => ?_⟩
        · rw [setGo_step (.inr (hhead _)) e1, k1]
          simp
        · rw [in_cons, in_cons, k2, ← c3]
theorem setR_rt (neg : Bool) (rg : List (Int × Int)) (h1 : rg ≠ []) (h2 : Canon rg) (h3 : ∀ r ∈ rg, okR r) (rest : List UInt8) : setR ((if neg then [94] else []) ++ rg.flatMap rgTxt ++ 93 :: rest) = .ok (.set neg rg) rest := by
  have hh : (rg.flatMap rgTxt ++ 93 :: rest).head? ≠ some 94 := by
    cases rg with
    | nil => exact absurd rfl h1
    | cons y rg =>
      show ((rgTxt y ++ rg.flatMap rgTxt) ++ 93 :: rest).head? ≠ some 94
      unfold rgTxt
      rw [List.append_assoc, List.append_assoc, List.append_assoc]
      exact (esc_head _ _).2.2
  cases neg
  · obtain ⟨L, k1, k2⟩ := set_rt rg h3 ((rg.flatMap rgTxt ++ 93 :: rest).length + 1) [] rest (.inr h1) (Nat.lt_succ_self _)
    show setR ([] ++ rg.flatMap rgTxt ++ 93 :: rest) = _
    rw [List.nil_append]
    unfold setR
    rw [if_neg hh, k1]
    dsimp only
    rw [List.nil_append, canonOf_eq h2 (fun n => (k2 n).symm), decide_eq_false hh]
  · obtain ⟨L, k1, k2⟩ := set_rt rg h3 ((94 :: (rg.flatMap rgTxt ++ 93 :: rest)).length + 1) [] rest (.inr h1) (by simp; omega)
    show setR (94 :: (rg.flatMap rgTxt ++ 93 :: rest)) = _
    unfold setR
    have hx : ∀ s : List UInt8, (94 :: s).head? = some 94 := fun _ => rfl
    rw [if_pos (hx _)]
    rw [List.tail_cons, k1]
    dsimp only
    rw [List.nil_append, canonOf_eq h2 (fun n => (k2 n).symm)]
    rfl

/-! Lists. -/
theorem vtxt_head (l : List (List GP)) (rest : List UInt8) : ∃ c s, vtxt l ++ rest = c :: s ∧ (c = 44 ∨ c = 125) := by
  cases l with
  | nil => exact ⟨125, rest, rfl, .inr rfl⟩
  | cons x r => exact ⟨44, _, rfl, .inl rfl⟩
theorem ptxt_head {d : Bool} {p : GP} (h : okP p) (hs : isS p = false) (rest : List UInt8) : (ptxt d p ++ rest).head? ≠ some 42 := by
  cases p with
  | text l =>
    cases l with
    | nil => exact absurd rfl h.1
    | cons c l =>
      show ((esc1 (spc d) c ++ escT (spc d) l) ++ rest).head? ≠ some 42
      unfold esc1
      cases hc : spc d c
      · rw [if_neg (by decide)]
        have := (spc_no hc).2.1
        simp [this]
      · rw [if_pos rfl]
        simp
  | one => simp [ptxt]
  | star => cases hs
  | deep => cases hs
  | set n r => simp [ptxt, setTxt]
  | ways l => simp [ptxt]
theorem ltxt_head {d pt : Bool} {l : List GP} (h : okL pt true l) {rest : List UInt8} (hr : rest.head? ≠ some 42) : (ltxt d l ++ rest).head? ≠ some 42 := by
  cases l with
  | nil => exact hr
  | cons p r =>
    have h' : okP p ∧ (isT p = true → pt = false) ∧ (isS p = true → true = false) ∧ okL (isT p) (isS p) r := h
    have hs : isS p = false := by
      cases hp : isS p
      · rfl
      · exact absurd (h'.2.2.1 hp) (by decide)
    show ((ptxt d p ++ ltxt d r) ++ rest).head? ≠ some 42
    rw [List.append_assoc]
    exact ptxt_head h'.1 hs _
theorem close_pl {c : UInt8} (h : c = 44 ∨ c = 125) (acc : List GP) (s : List UInt8) : PL true acc (c :: s) = .ok acc (c :: s) := by
  rw [PL_cons, if_pos ⟨rfl, h⟩]
theorem c_eq {d : Bool} {acc : List GP} {r : List UInt8} {c : UInt8} (h : ¬ (c = 44 ∨ c = 125)) : PL d acc (c :: r) = if c = 63 then PL d (acc ++ [.one]) r
    else if c = 42 then (if r.head? = some 42 then (if r.tail.head? = some 42 then .bad r.tail else PL d (acc ++ [.deep]) r.tail) else PL d (acc ++ [.star]) r)
    else if c = 91 then (match setR r with | .bad s => .bad s | .ok p q => PL d (acc ++ [p]) q)
    else if c = 123 then (match WL [] r with | .bad s => .bad s | .ok w q => PL d (acc ++ [.ways w]) q)
    else if c = 92 then (match r with | [] => .bad [] | x :: q => if x = 0 then .bad (x :: q) else PL d (addT acc x) q)
    else if c = 0 ∨ c = 93 ∨ c = 125 then .bad (c :: r)
    else PL d (addT acc c) r := by
  rw [PL_cons, if_neg (fun h2 => h h2.2)]
  rfl
mutual
theorem part_rt : ∀ (p : GP), okP p → ∀ (d : Bool) (acc : List GP) (rest : List UInt8), (isT p = true → lastT acc = false) → (isS p = true → rest.head? ≠ some 42) → PL d acc (ptxt d p ++ rest) = PL d (acc ++ [p]) rest
  | .text l, h, d, acc, rest, ht, _ => by
    show PL d acc (escT (spc d) l ++ rest) = _
    rw [text_rt d l h.2, addT_text (ht rfl) h.1]
  | .one, _, d, acc, rest, _, _ => by
    show PL d acc (63 :: rest) = _
    rw [c_eq (by decide), if_pos rfl]
  | .star, _, d, acc, rest, _, hs => by
    show PL d acc (42 :: rest) = _
    rw [c_eq (by decide), if_neg (by decide), if_pos rfl, if_neg (hs rfl)]
  | .deep, _, d, acc, rest, _, hs => by
    show PL d acc (42 :: 42 :: rest) = _
    have hx : ∀ s : List UInt8, (42 :: s).head? = some 42 := fun _ => rfl
    rw [c_eq (by decide), if_neg (by decide), if_pos rfl, if_pos (hx _)]
    show (if rest.head? = some 42 then _ else PL d (acc ++ [.deep]) rest) = _
    rw [if_neg (hs rfl)]
  | .set neg rg, h, d, acc, rest, _, _ => by
    have e : ptxt d (.set neg rg) ++ rest = 91 :: ((if neg then [94] else []) ++ rg.flatMap rgTxt ++ 93 :: rest) := by
      show setTxt neg rg ++ rest = _
      unfold setTxt
      simp
    rw [e, c_eq (by decide), if_neg (by decide), if_neg (by decide), if_pos rfl, setR_rt neg rg h.1 h.2.1 h.2.2]
  | .ways [], h, d, acc, rest, _, _ => absurd rfl h.1
  | .ways (x :: r), h, d, acc, rest, _, _ => by
    show PL d acc (123 :: (wtxt (x :: r) ++ rest)) = _
    rw [c_eq (by decide), if_neg (by decide), if_neg (by decide), if_neg (by decide), if_pos rfl]
    have h2 : okL false false x ∧ okW r := h.2
    have e1 : WL [] (wtxt (x :: r) ++ rest) = .ok (x :: r) rest := by
      show WL [] ((ltxt true x ++ vtxt r) ++ rest) = _
      rw [List.append_assoc]
      have := ways_rt x r h2.1 h2.2 [] rest
      rw [this]
      rfl
    rw [e1]
termination_by p => sizeOf p
decreasing_by all_goals (simp_wf; try omega)
theorem list_rt : ∀ (l : List GP) (pt ps : Bool), okL pt ps l → ∀ (d : Bool) (acc : List GP) (rest : List UInt8), (pt = false → lastT acc = false) → rest.head? ≠ some 42 → PL d acc (ltxt d l ++ rest) = PL d (acc ++ l) rest
  | [], _, _, _, d, acc, rest, _, _ => by
    show PL d acc rest = _
    rw [List.append_nil]
  | p :: r, pt, ps, h, d, acc, rest, ha, hr => by
    have h' : okP p ∧ (isT p = true → pt = false) ∧ (isS p = true → ps = false) ∧ okL (isT p) (isS p) r := h
    show PL d acc ((ptxt d p ++ ltxt d r) ++ rest) = _
    rw [List.append_assoc, part_rt p h'.1 d acc _ (fun e => ha (h'.2.1 e)) (fun e => by
      have h4 := h'.2.2.2
      rw [e] at h4
      exact ltxt_head h4 hr), list_rt r (isT p) (isS p) h'.2.2.2 d (acc ++ [p]) rest (fun e => by rw [lastT_snoc, e]) hr]
    simp
termination_by l => sizeOf l
decreasing_by all_goals (simp_wf; try omega)
theorem ways_rt : ∀ (x : List GP) (r : List (List GP)), okL false false x → okW r → ∀ (ws : List (List GP)) (rest : List UInt8), WL ws (ltxt true x ++ (vtxt r ++ rest)) = .ok (ws ++ x :: r) rest
  | x, [], hx, _, ws, rest => by
    rw [WL_unf, list_rt x false false hx true [] _ (fun _ => rfl) (by simp [vtxt])]
    rw [show vtxt [] ++ rest = 125 :: rest from rfl, close_pl (.inr rfl)]
    rfl
  | x, y :: r, hx, hr, ws, rest => by
    have h2 : okL false false y ∧ okW r := hr
    rw [WL_unf, list_rt x false false hx true [] _ (fun _ => rfl) (by simp [vtxt])]
    rw [show vtxt (y :: r) ++ rest = 44 :: ((ltxt true y ++ vtxt r) ++ rest) from rfl, close_pl (.inl rfl)]
    dsimp only
    rw [if_pos rfl, List.append_assoc, ways_rt y r h2.1 h2.2]
    simp
termination_by x r => sizeOf (x :: r)
decreasing_by all_goals (simp_wf; try omega)
end
end Wh.G
