/-
  Plain law: the field of 256 numbers, and polynomials over it.
-/
import Derived.Test.YtjcpcmiijadmcaaDoorBase
namespace Wh.Fld
abbrev F := BitVec 8

/-- Twice a number. -/
def xt (a : F) : F := (a <<< 1) ^^^ (bif a.msb then 27#8 else 0#8)
def gm : Nat → F → F → F
  | 0, _, _ => 0#8
  | n + 1, a, b => (bif b.getLsbD 0 then a else 0#8) ^^^ gm n (xt a) (b >>> 1)
def mul (a b : F) : F := gm 8 a b

theorem xor_comm (a b : F) : a ^^^ b = b ^^^ a := BitVec.xor_comm a b
theorem xor4 (a b c d : F) : (a ^^^ b) ^^^ (c ^^^ d) = (a ^^^ c) ^^^ (b ^^^ d) := by
  rw [BitVec.xor_assoc, BitVec.xor_assoc, ← BitVec.xor_assoc b c d, ← BitVec.xor_assoc c b d, BitVec.xor_comm b c]

theorem xt_add (a b : F) : xt (a ^^^ b) = xt a ^^^ xt b := by
  unfold xt
  rw [BitVec.shiftLeft_xor_distrib, BitVec.msb_xor, xor4]
  congr 1
  cases a.msb <;> cases b.msb <;> rfl

theorem gm_add_left (n : Nat) : ∀ a a' b : F, gm n (a ^^^ a') b = gm n a b ^^^ gm n a' b := by
  induction n with
  | zero => intro a a' b; simp [gm]
  | succ n ih =>
    intro a a' b
    unfold gm
    rw [xt_add, ih, xor4]
    congr 1
    cases b.getLsbD 0 <;> simp

theorem gm_add_right (n : Nat) : ∀ a b b' : F, gm n a (b ^^^ b') = gm n a b ^^^ gm n a b' := by
  induction n with
  | zero => intro a b b'; simp [gm]
  | succ n ih =>
    intro a b b'
    unfold gm
    rw [BitVec.ushiftRight_xor_distrib, ih, xor4]
    congr 1
    rw [BitVec.getLsbD_xor]
    cases b.getLsbD 0 <;> cases b'.getLsbD 0 <;> simp

theorem add_mul (a a' b : F) : mul (a ^^^ a') b = mul a b ^^^ mul a' b := gm_add_left 8 a a' b
theorem mul_add (a b b' : F) : mul a (b ^^^ b') = mul a b ^^^ mul a b' := gm_add_right 8 a b b'

def Additive (f : F → F) : Prop := ∀ a b, f (a ^^^ b) = f a ^^^ f b
theorem Additive.zero {f : F → F} (h : Additive f) : f 0#8 = 0#8 := by
  have := h 0#8 0#8
  rw [BitVec.xor_self, BitVec.xor_self] at this
  exact this

def bit (i : Fin 8) : F := 1#8 <<< i.1
theorem split8 : ∀ a : F, a = (bif a.getLsbD 0 then bit 0 else 0#8) ^^^ ((bif a.getLsbD 1 then bit 1 else 0#8) ^^^ ((bif a.getLsbD 2 then bit 2 else 0#8) ^^^ ((bif a.getLsbD 3 then bit 3 else 0#8) ^^^ ((bif a.getLsbD 4 then bit 4 else 0#8) ^^^ ((bif a.getLsbD 5 then bit 5 else 0#8) ^^^ ((bif a.getLsbD 6 then bit 6 else 0#8) ^^^ (bif a.getLsbD 7 then bit 7 else 0#8))))))) := by decide +kernel

theorem Additive.ext {f g : F → F} (hf : Additive f) (hg : Additive g) (h : ∀ i, f (bit i) = g (bit i)) (a : F) : f a = g a := by
  have hb : ∀ (c : Bool) (i : Fin 8), f (bif c then bit i else 0#8) = g (bif c then bit i else 0#8) := by
    intro c i
    cases c
    · exact hf.zero.trans hg.zero.symm
    · exact h i
  rw [split8 a]
  repeat rw [hf, hg]
  simp only [hb]

theorem mul_comm (a b : F) : mul a b = mul b a := by
  refine Additive.ext (f := fun a => mul a b) (g := fun a => mul b a) (fun x y => add_mul x y b) (fun x y => mul_add b x y) (fun i => ?_) a
  refine Additive.ext (f := fun b => mul (bit i) b) (g := fun b => mul b (bit i)) (fun x y => mul_add (bit i) x y) (fun x y => add_mul x y (bit i)) (fun j => ?_) b
  revert i j
  decide +kernel

theorem mul_assoc (a b c : F) : mul (mul a b) c = mul a (mul b c) := by
  refine Additive.ext (f := fun a => mul (mul a b) c) (g := fun a => mul a (mul b c)) (fun x y => by simp only [add_mul]) (fun x y => add_mul x y _) (fun i => ?_) a
  refine Additive.ext (f := fun b => mul (mul (bit i) b) c) (g := fun b => mul (bit i) (mul b c)) (fun x y => by simp only [add_mul, mul_add]) (fun x y => by simp only [add_mul, mul_add]) (fun j => ?_) b
  refine Additive.ext (f := fun c => mul (mul (bit i) (bit j)) c) (g := fun c => mul (bit i) (mul (bit j) c)) (fun x y => by simp only [mul_add]) (fun x y => by simp only [mul_add]) (fun k => ?_) c
  revert i j k
  decide +kernel

theorem one_mul (a : F) : mul 1#8 a = a := by
  revert a
  decide +kernel
theorem mul_one (a : F) : mul a 1#8 = a := by rw [mul_comm, one_mul]
theorem zero_mul (a : F) : mul 0#8 a = 0#8 := Additive.zero (f := fun x => mul x a) (fun x y => add_mul x y a)
theorem mul_zero (a : F) : mul a 0#8 = 0#8 := by rw [mul_comm, zero_mul]

/-- inverse's rounds. -/
def invGo : Nat → F → F → Nat → F
  | 0, out, _, _ => out
  | k + 1, out, a, n => invGo k (if n % 2 = 1 then mul out a else out) (mul a a) (n / 2)
def inv (a : F) : F := invGo 8 1#8 a 254
theorem mul_inv : ∀ a : F, a ≠ 0#8 → mul a (inv a) = 1#8 := by decide +kernel
theorem inv_mul (a : F) (h : a ≠ 0#8) : mul (inv a) a = 1#8 := by rw [mul_comm, mul_inv a h]

theorem mul_eq_zero {a b : F} (h : mul a b = 0#8) (ha : a ≠ 0#8) : b = 0#8 := by
  have : mul (inv a) (mul a b) = 0#8 := by rw [h, mul_zero]
  rwa [← mul_assoc, inv_mul a ha, one_mul] at this
theorem mul_ne {a b : F} (ha : a ≠ 0#8) (hb : b ≠ 0#8) : mul a b ≠ 0#8 := fun h => hb (mul_eq_zero h ha)
theorem inv_ne {a : F} (ha : a ≠ 0#8) : inv a ≠ 0#8 := fun h => by
  have := mul_inv a ha
  rw [h, mul_zero] at this
  exact absurd this (by decide)
theorem xor_ne {a b : F} (h : a ≠ b) : a ^^^ b ≠ 0#8 := fun e => h (by
  have : a ^^^ b ^^^ b = 0#8 ^^^ b := by rw [e]
  rwa [BitVec.xor_assoc, BitVec.xor_self, BitVec.xor_zero, BitVec.zero_xor] at this)
theorem mul_inj {a x y : F} (ha : a ≠ 0#8) (h : mul a x = mul a y) : x = y := by
  have : mul a (x ^^^ y) = 0#8 := by rw [mul_add, h, BitVec.xor_self]
  have := mul_eq_zero this ha
  by_cases e : x = y
  · exact e
  · exact absurd this (xor_ne e)

/-- A polynomial: its coefficients, the lowest first. -/
def eval : List F → F → F
  | [], _ => 0#8
  | c :: r, x => c ^^^ mul (eval r x) x

def addP : List F → List F → List F
  | [], q => q
  | p, [] => p
  | a :: p, b :: q => (a ^^^ b) :: addP p q
theorem eval_addP (x : F) : ∀ p q : List F, eval (addP p q) x = eval p x ^^^ eval q x := by
  intro p
  induction p with
  | nil => intro q; simp [addP, eval]
  | cons a p ih =>
    intro q
    cases q with
    | nil => simp [addP, eval]
    | cons b q =>
      simp only [addP, eval, ih, add_mul]
      rw [xor4]
theorem length_addP : ∀ p q : List F, (addP p q).length = max p.length q.length := by
  intro p
  induction p with
  | nil => intro q; simp [addP]
  | cons a p ih =>
    intro q
    cases q with
    | nil => simp [addP]
    | cons b q => simp only [addP, List.length_cons, ih]; omega

def scaleP (a : F) (p : List F) : List F := p.map (mul a)
theorem eval_scaleP (a x : F) (p : List F) : eval (scaleP a p) x = mul a (eval p x) := by
  induction p with
  | nil => simp [scaleP, eval, mul_zero]
  | cons c p ih =>
    simp only [scaleP, List.map_cons, eval] at ih ⊢
    rw [ih, mul_add, mul_assoc]

/-- times (x - r) -/
def linP (r : F) (p : List F) : List F := addP (0#8 :: p) (scaleP r p)
theorem eval_linP (r x : F) (p : List F) : eval (linP r p) x = mul (x ^^^ r) (eval p x) := by
  unfold linP
  rw [eval_addP, eval_scaleP, add_mul]
  simp only [eval, BitVec.zero_xor]
  rw [mul_comm (eval p x) x]
theorem length_linP (r : F) (p : List F) : (linP r p).length = p.length + 1 := by
  unfold linP
  rw [length_addP]
  simp [scaleP]

/-- Division by (x - r). -/
def divP (r : F) : List F → List F
  | [] => []
  | _ :: p => match p with
    | [] => []
    | c :: q => eval (c :: q) r :: divP r (c :: q)
theorem eval_divP (r x : F) : ∀ p : List F, eval p x = mul (x ^^^ r) (eval (divP r p) x) ^^^ eval p r := by
  intro p
  induction p with
  | nil => simp [divP, eval, mul_zero]
  | cons a p ih =>
    cases p with
    | nil => simp [divP, eval, zero_mul, mul_zero]
    | cons c q =>
      rw [divP]
      generalize hp : c :: q = p at ih ⊢
      generalize hq : divP r p = d at ih ⊢
      simp only [eval]
      rw [ih, add_mul]
      generalize eval d x = D
      generalize eval p r = R
      rw [mul_add, mul_assoc]
      generalize hm : mul D x = M
      have e : mul (x ^^^ r) R = mul R x ^^^ mul R r := by rw [mul_comm, mul_add]
      rw [e]
      have a1 : ∀ a A B C : F, a ^^^ (A ^^^ B) = (B ^^^ C ^^^ A) ^^^ (a ^^^ C) := by
        intro a A B C
        have hc : C ^^^ C = 0#8 := BitVec.xor_self
        calc a ^^^ (A ^^^ B) = a ^^^ (A ^^^ B) ^^^ 0#8 := by rw [BitVec.xor_zero]
          _ = a ^^^ (A ^^^ B) ^^^ (C ^^^ C) := by rw [hc]
          _ = (B ^^^ C ^^^ A) ^^^ (a ^^^ C) := by ac_rfl
      exact a1 _ _ _ _
theorem length_divP (r : F) : ∀ p : List F, (divP r p).length = p.length - 1 := by
  intro p
  induction p with
  | nil => rfl
  | cons a p ih =>
    cases p with
    | nil => rfl
    | cons c q => rw [divP, List.length_cons, ih]; simp

/-- So many roots as coefficients: the value is 0 everywhere. -/
theorem roots_zero : ∀ (xs p : List F), xs.Nodup → p.length ≤ xs.length → (∀ x ∈ xs, eval p x = 0#8) → ∀ y, eval p y = 0#8 := by
  intro xs
  induction xs with
  | nil =>
    intro p _ hl _ y
    cases p with
    | nil => rfl
    | cons a p => simp at hl
  | cons r xs ih =>
    intro p hn hl hz y
    have hr := hz r (by simp)
    have hd : ∀ y, eval (divP r p) y = 0#8 := by
      refine ih (divP r p) (List.nodup_cons.1 hn).2 (by rw [length_divP]; simp at hl; omega) (fun x hx => ?_)
      have h1 := eval_divP r x p
      rw [hz x (by simp [hx]), hr, BitVec.xor_zero] at h1
      exact mul_eq_zero h1.symm (xor_ne (fun e => (List.nodup_cons.1 hn).1 (e ▸ hx)))
    rw [eval_divP r y p, hd, mul_zero, hr]
    rfl
end Wh.Fld
