/-
  The texts Glob1, Glob2, Glob3, Glob4, Glob5, Glob6, Glob7, Glob8, Glob9, GlobT1, GlobT2, Glob10, Glob11, Glob12, in one.
-/
import Derived.Test.YtfenmeacimfiaaaGreatDoorGlobMem
import Derived.Test.YtfenmeacimfiaaaGreatDoorOwn
import Derived.Test.YtfenmeacimfiaaaGreatDoorBytes
namespace Go.Proofs.YtfenmeacimfiaaaGreatDoor
open Go.RowKit

/-- How many parts there are. -/
def cnt : (n : Nat) → P n → Nat
  | 0, _ => 0
  | n + 1, p => 1 + ((PartOf.ways (α := P n) p).xs.map (fun s => (s.xs.map (cnt n)).sum)).sum
def cntL (n : Nat) (xs : List (P n)) : Nat := (xs.map (cnt n)).sum
def maxL (l : List Nat) : Nat := l.foldl max 0
/-- How deep ways stand within each other. -/
def dp : (n : Nat) → P n → Nat
  | 0, _ => 0
  | n + 1, p => maxL ((PartOf.ways (α := P n) p).xs.map (fun s => maxL (s.xs.map (dp n)))) + if PartOf.kind (α := P n) p = 6 then 1 else 0
def dpL (n : Nat) (xs : List (P n)) : Nat := maxL (xs.map (dp n))

theorem maxL_snoc (l : List Nat) (x : Nat) : maxL (l ++ [x]) = max (maxL l) x := by simp [maxL]
theorem take_map_snoc {α β : Type} {xs : List α} {k : Nat} {x : α} (f : α → β) (h : xs[k]? = some x) : (xs.take (k + 1)).map f = (xs.take k).map f ++ [f x] := by
  rw [List.take_add_one, h]
  simp
theorem maxL_le {l : List Nat} {B : Nat} (h : ∀ x ∈ l, x ≤ B) : maxL l ≤ B := by
  have : ∀ (l : List Nat) (a : Nat), a ≤ B → (∀ x ∈ l, x ≤ B) → l.foldl max a ≤ B := by
    intro l
    induction l with
    | nil => intro a ha _; exact ha
    | cons x l ih =>
      intro a ha hl
      exact ih (max a x) (by have := hl x (by simp); omega) (fun y hy => hl y (by simp [hy]))
  exact this l 0 (Nat.zero_le _) h
theorem le_sum {l : List Nat} {x : Nat} (h : x ∈ l) : x ≤ l.sum := by
  induction l with
  | nil => cases h
  | cons y l ih =>
    rw [List.sum_cons]
    rcases List.mem_cons.1 h with rfl | h
    · omega
    · have := ih h
      omega
theorem sum_mono {α : Type} {f g : α → Nat} {xs : List α} (h : ∀ x ∈ xs, f x ≤ g x) : (xs.map f).sum ≤ (xs.map g).sum := by
  induction xs with
  | nil => simp
  | cons y xs ih =>
    simp only [List.map_cons, List.sum_cons]
    have := h y (by simp)
    have := ih (fun x hx => h x (by simp [hx]))
    omega
theorem sum_ones1 {α : Type} : ∀ (xs : List α), (xs.map (fun _ => 1)).sum = xs.length
  | [] => rfl
  | _ :: xs => by
    rw [List.map_cons, List.sum_cons, sum_ones1 xs, List.length_cons]
    omega
theorem cnt_le : (n : Nat) → (p : P n) → cnt n p ≤ sz n p
  | 0, _ => Nat.le_refl _
  | n + 1, p => by
    show 1 + ((PartOf.ways (α := P n) p).xs.map (fun s => (s.xs.map (cnt n)).sum)).sum ≤ 1 + _ + _ + ((PartOf.ways (α := P n) p).xs.map (fun s => 1 + (s.xs.map (sz n)).sum)).sum
    have := sum_mono (xs := (PartOf.ways (α := P n) p).xs) (f := fun s => (s.xs.map (cnt n)).sum) (g := fun s => 1 + (s.xs.map (sz n)).sum) (fun s _ => by
      have := sum_mono (xs := s.xs) (fun q _ => cnt_le n q)
      omega)
    omega
theorem dp_le : (n : Nat) → (p : P n) → dp n p ≤ sz n p
  | 0, _ => Nat.le_refl _
  | n + 1, p => by
    show maxL ((PartOf.ways (α := P n) p).xs.map (fun s => maxL (s.xs.map (dp n)))) + _ ≤ 1 + _ + _ + ((PartOf.ways (α := P n) p).xs.map (fun s => 1 + (s.xs.map (sz n)).sum)).sum
    have h1 : maxL ((PartOf.ways (α := P n) p).xs.map (fun s => maxL (s.xs.map (dp n)))) ≤ ((PartOf.ways (α := P n) p).xs.map (fun s => 1 + (s.xs.map (sz n)).sum)).sum := by
      refine maxL_le (fun x hx => ?_)
      obtain ⟨s, hs, rfl⟩ := List.mem_map.1 hx
      have h2 : maxL (s.xs.map (dp n)) ≤ (s.xs.map (sz n)).sum := maxL_le (fun y hy => by
        obtain ⟨q, hq, rfl⟩ := List.mem_map.1 hy
        exact Nat.le_trans (dp_le n q) (le_sum (List.mem_map.2 ⟨q, hq, rfl⟩)))
      have h3 := le_sum (List.mem_map.2 ⟨s, hs, rfl⟩ : (1 + (s.xs.map (sz n)).sum) ∈ (PartOf.ways (α := P n) p).xs.map (fun s => 1 + (s.xs.map (sz n)).sum))
      omega
    split <;> omega
theorem cntL_le (n : Nat) (xs : List (P n)) : cntL n xs ≤ szL n xs := sum_mono (fun q _ => cnt_le n q)
theorem dpL_le (n : Nat) (xs : List (P n)) : dpL n xs ≤ szL n xs := maxL_le (fun y hy => by
  obtain ⟨q, hq, rfl⟩ := List.mem_map.1 hy
  exact Nat.le_trans (dp_le n q) (le_sum (List.mem_map.2 ⟨q, hq, rfl⟩)))
theorem sum_take_le {α : Type} (f : α → Nat) (xs : List α) (k : Nat) : ((xs.take k).map f).sum ≤ (xs.map f).sum := by
  have : xs.map f = (xs.take k).map f ++ (xs.drop k).map f := by rw [← List.map_append, List.take_append_drop]
  rw [this, List.sum_append]
  omega

/-- A block that holds a part. -/
def PartBox {α : Type} (w : World) (b : Nat) (p : PartOf α) : Prop := b < w.heap.size ∧ w.cell? ⟨b, 0, none⟩ = some (.int .i64 p.kind) ∧ w.cell? ⟨b, 1, none⟩ = some (.string p.text) ∧ w.cell? ⟨b, 2, none⟩ = some (.bool p.neg) ∧ w.cell? ⟨b, 3, none⟩ = some (.slice p.rg.a p.rg.xs.length p.rg.c) ∧ w.cell? ⟨b, 4, none⟩ = some (.slice p.ways.a p.ways.xs.length p.ways.c)
theorem PartBox.under {α : Type} {w w' : World} {b : Nat} {p : PartOf α} (h : PartBox w b p) (hb : Below w.heap.size w w') : PartBox w' b p := by
  obtain ⟨h0, h1, h2, h3, h4, h5⟩ := h
  exact ⟨Nat.lt_of_lt_of_le h0 hb.size, (hb.cell (p := ⟨b, 0, none⟩) h0).trans h1, (hb.cell (p := ⟨b, 1, none⟩) h0).trans h2, (hb.cell (p := ⟨b, 2, none⟩) h0).trans h3, (hb.cell (p := ⟨b, 3, none⟩) h0).trans h4, (hb.cell (p := ⟨b, 4, none⟩) h0).trans h5⟩
theorem partBox_new {α : Type} (w : World) (p : PartOf α) (t : TypeId) : PartBox (w.alloc (.cells #[.int .i64 p.kind, .string p.text, .bool p.neg, .slice p.rg.a p.rg.xs.length p.rg.c, .slice p.ways.a p.ways.xs.length p.ways.c] t)) w.heap.size p := by
  refine ⟨by simp, ?_, ?_, ?_, ?_, ?_⟩ <;> (rw [World.cell?_alloc_at _ _ _ _ rfl]; rfl)
theorem partRow {n : Nat} {w : World} {s : Sl (P (n + 1))} (h : SlHolds w 5 (partCells (n + 1)) s) {k : Nat} {p : PartOf (P n)} (hk : s.xs[k]? = some p) :
    ∃ b off, s.a = some ⟨b, off, none⟩ ∧ b < w.heap.size ∧ w.cell? ⟨b, off + k * 5, none⟩ = some (.int .i64 p.kind) ∧ w.cell? ⟨b, off + k * 5 + 1, none⟩ = some (.string p.text) ∧ w.cell? ⟨b, off + k * 5 + 2, none⟩ = some (.bool p.neg) ∧
      w.cell? ⟨b, off + k * 5 + 3, none⟩ = some (.slice p.rg.a p.rg.xs.length p.rg.c) ∧ w.cell? ⟨b, off + k * 5 + 4, none⟩ = some (.slice p.ways.a p.ways.xs.length p.ways.c) := by
  obtain ⟨b, off, ha, hb, hc⟩ := h.1.at (k := k) (row := partCellsOf p) (by rw [List.getElem?_map, hk]; rfl)
  exact ⟨b, off, ha, hb, hc 0 _ rfl, hc 1 _ rfl, hc 2 _ rfl, hc 3 _ rfl, hc 4 _ rfl⟩
theorem wayRow {α : Type} {w : World} {s : Sl (Sl α)} (h : SlHolds w 1 (fun s : Sl α => [s.val]) s) {k : Nat} {t : Sl α} (hk : s.xs[k]? = some t) :
    ∃ b off, s.a = some ⟨b, off, none⟩ ∧ b < w.heap.size ∧ w.cell? ⟨b, off + k, none⟩ = some (.slice t.a t.xs.length t.c) := by
  obtain ⟨b, off, ha, hb, hc⟩ := h.1.at (k := k) (row := [t.val]) (by rw [List.getElem?_map, hk]; rfl)
  have := hc 0 _ rfl
  rw [Nat.mul_one, Nat.add_zero] at this
  exact ⟨b, off, ha, hb, this⟩
end Go.Proofs.YtfenmeacimfiaaaGreatDoor
namespace Go.Proofs.YtfenmeacimfiaaaGreatDoor
open Go.RowKit

theorem int_eqv {k : IntKind} {a b : Int} (h : a = b) : Value.int k a = .int k b := by rw [h]
theorem sz_pos : (n : Nat) → (p : P n) → 1 ≤ sz n p
  | 0, e => nomatch e
  | n + 1, p => by show 1 ≤ 1 + _ + _ + _; omega
theorem len_le_sz (n : Nat) (xs : List (P n)) : xs.length ≤ szL n xs := by
  have := sum_mono (xs := xs) (f := fun _ => 1) (g := sz n) (fun q _ => sz_pos n q)
  rw [sum_ones1] at this
  exact this
theorem max_eq (a b : Nat) : (if (a : Int) < (b : Int) then (b : Int) else (a : Int)) = ((max a b : Nat) : Int) := by
  split <;> omega

set_option maxHeartbeats 2000000 in
set_option maxRecDepth 100000 in
theorem partCount_any : ∀ (n : Nat) (s : Sl (P n)) (w : World), SOk w n s → szL n s.xs ≤ 1048576 → s.xs.length ≤ 1048576 →
    Calls Tryz.prog 56 #[.slice s.a s.xs.length s.c] w fun e w' => e = .returned (.tuple #[.int .i64 (cntL n s.xs), .int .i64 (dpL n s.xs)]) ∧ Below w.heap.size w w' := by
  intro n
  induction n with
  | zero =>
    intro s w hs _ _
    obtain ⟨a, c, xs⟩ := s
    cases xs with
    | cons x _ => exact nomatch x
    | nil =>
      go_enter Tryz.func56, Tryz.ntmps56
      go_wp2_with fail
      refine wp_loop_rounds 1 ?_
      rw [rounds_succ]
      go_wp2_with fail
      go_ret2
      exact ⟨rfl, Below.refl _ _⟩
  | succ n ih =>
    rintro ⟨sa, sc, xs⟩ w hs hz hlen
    simp only [] at hz hlen
    have HS := Lib.hid hs
    have HIH := Lib.hid ih
    clear hs ih
    go_enter Tryz.func56, Tryz.ntmps56
    go_wp2_with fail
    go_loopg [2, 3, 13] xs.length (fun g s2 s3 i wx => ∃ (k cn de : Nat), k + g = xs.length ∧ i = .int .i64 k ∧ s2 = .int .i64 cn ∧ s3 = .int .i64 de ∧ Below w.heap.size w wx ∧ cn ≤ 1048576 ∧ de ≤ 1048576 ∧ Hid (cn = cntL (n + 1) (xs.take k)) ∧ Hid (de = dpL (n + 1) (xs.take k)))
    case atStart => exact ⟨0, 0, 0, by omega, rfl, rfl, rfl, Below.refl _ _, by omega, by omega, Lib.hid rfl, Lib.hid rfl⟩
    case round =>
      obtain ⟨k, cn, de, hk, rfl, rfl, rfl, hb, hcn, hde, HC, HD⟩ := hrel
      by_cases hlt : k < xs.length
      · obtain ⟨g, rfl⟩ : ∃ g, gk = g + 1 := ⟨gk - 1, by omega⟩
        obtain ⟨p, hx⟩ : ∃ p : PartOf (P n), xs[k]? = some p := ⟨_, List.getElem?_eq_getElem hlt⟩
        obtain ⟨ba, off, ha, hba, r0, r1, r2, r3, r4⟩ := partRow (HS.out.1.under hb) hx
        have hpo : POk w (n + 1) p := HS.out.2 p (List.mem_of_getElem? hx)
        have HPo := Lib.hid hpo
        have HC2 : Hid (cntL (n + 1) (xs.take (k + 1)) = cn + cnt (n + 1) p) := Lib.hid (by unfold cntL at *; rw [take_map_snoc _ hx, List.sum_append, ← HC.out]; simp)
        have HD2 : Hid (dpL (n + 1) (xs.take (k + 1)) = max de (dp (n + 1) p)) := Lib.hid (by unfold dpL at *; rw [take_map_snoc _ hx, maxL_snoc, ← HD.out])
        have hcn2 : cn + cnt (n + 1) p ≤ 1048576 := by
          have h1 := cntL_le (n + 1) (xs.take (k + 1))
          have h2 : szL (n + 1) (xs.take (k + 1)) ≤ szL (n + 1) xs := sum_take_le _ _ _
          rw [HC2.out] at h1
          omega
        have hde2 : dp (n + 1) p ≤ 1048576 := by
          have h1 := dp_le (n + 1) p
          have h2 : sz (n + 1) p ≤ szL (n + 1) xs := le_sum (List.mem_map.2 ⟨p, List.mem_of_getElem? hx, rfl⟩)
          omega
        have hsp : sz (n + 1) p ≤ 1048576 := by
          have h2 : sz (n + 1) p ≤ szL (n + 1) xs := le_sum (List.mem_map.2 ⟨p, List.mem_of_getElem? hx, rfl⟩)
          omega
        have HBx := Lib.hid (partBox_new wr p 212)
        have hbx : Below wr.heap.size wr (wr.alloc (.cells #[.int .i64 p.kind, .string p.text, .bool p.neg, .slice p.rg.a p.rg.xs.length p.rg.c, .slice p.ways.a p.ways.xs.length p.ways.c] 212)) := bAlloc (Below.refl _ _) _
        have HCp : Hid (cnt (n + 1) p = 1 + (p.ways.xs.map (fun s => cntL n s.xs)).sum) := Lib.hid rfl
        have HDp : Hid (dp (n + 1) p = maxL (p.ways.xs.map (fun s => dpL n s.xs)) + if p.kind = 6 then 1 else 0) := Lib.hid rfl
        have hwl : p.ways.xs.length ≤ 1048576 ∧ (p.ways.xs.map (fun s => 1 + szL n s.xs)).sum ≤ 1048576 := by
          have h1 : sz (n + 1) p = 1 + p.text.size + p.rg.xs.length + (p.ways.xs.map (fun s => 1 + szL n s.xs)).sum := rfl
          have h2 : p.ways.xs.length ≤ (p.ways.xs.map (fun s => 1 + szL n s.xs)).sum := by
            have := sum_mono (xs := p.ways.xs) (f := fun _ => 1) (g := fun s => 1 + szL n s.xs) (fun s _ => by omega)
            rw [sum_ones1] at this
            exact this
          omega
        generalize cnt (n + 1) p = cp at *
        generalize dp (n + 1) p = dpp at *
        clear hx hsp hpo
        obtain ⟨hwl, hws⟩ := hwl
        cases ha
        obtain ⟨kind, text, neg, ⟨ra, rc, rxs⟩, ⟨wa, wc, wxs⟩⟩ := p
        simp only [] at *
        go_upto_region 4 with fail
        generalize wr.alloc _ = w3 at *
        clear r0 r1 r2 r3 r4
        have hb3 := bTrans hb hbx
        obtain ⟨p0, p1, p2, p3, p4, p5⟩ := HBx.out
        obtain ⟨wo, rfl⟩ : ∃ wo : World, wo = wr := ⟨_, rfl⟩
        go_wp2_with fail
        go_loopg [2, 6, 22] wxs.length (fun g s2 s6 i wx => ∃ (j c2 b2 : Nat), j + g = wxs.length ∧ i = .int .i64 j ∧ s2 = .int .i64 c2 ∧ s6 = .int .i64 b2 ∧ Below w3.heap.size w3 wx ∧ c2 ≤ 1048576 ∧ b2 ≤ 1048576 ∧ Hid (c2 = cn + 1 + ((wxs.take j).map (fun s => cntL n s.xs)).sum) ∧ Hid (b2 = maxL ((wxs.take j).map (fun s => dpL n s.xs))))
        case atStart => exact ⟨0, cn + 1, 0, by omega, rfl, int_eqv (by omega), rfl, Below.refl _ _, by have := HCp.out; omega, by omega, Lib.hid rfl, Lib.hid rfl⟩
        case round =>
          obtain ⟨j, c2, b2, hj, rfl, rfl, rfl, hbj, hc2, hb2, HCj, HBj⟩ := hrel
          by_cases hlt2 : j < wxs.length
          · obtain ⟨g2, rfl⟩ : ∃ g2, gk = g2 + 1 := ⟨gk - 1, by omega⟩
            obtain ⟨t, hx⟩ : ∃ t : Sl (P n), wxs[j]? = some t := ⟨_, List.getElem?_eq_getElem hlt2⟩
            obtain ⟨bw, ow, ha, hbw, r0⟩ := wayRow (HPo.out.2.2.2.1.under (bTrans hb3 hbj)) hx
            have hmem := List.mem_of_getElem? hx
            have hto : SOk w n t := HPo.out.2.2.2.2 t hmem
            have hszt : 1 + szL n t.xs ≤ 1048576 := Nat.le_trans (le_sum (List.mem_map.2 ⟨t, hmem, rfl⟩ : (1 + szL n t.xs) ∈ wxs.map (fun s => 1 + szL n s.xs))) hws
            have hlt3 : t.xs.length ≤ 1048576 := by have := len_le_sz n t.xs; omega
            have HCall := Lib.hid (HIH.out t wr (hto.under (bTrans hb3 hbj)) (by omega) hlt3)
            have hcb := cntL_le n t.xs
            have hdb := dpL_le n t.xs
            have HCs : Hid (c2 + cntL n t.xs = cn + 1 + ((wxs.take (j + 1)).map (fun s => cntL n s.xs)).sum) := Lib.hid (by rw [take_map_snoc _ hx, List.sum_append, HCj.out]; simp; omega)
            have HBs : Hid (max b2 (dpL n t.xs) = maxL ((wxs.take (j + 1)).map (fun s => dpL n s.xs))) := Lib.hid (by rw [take_map_snoc _ hx, maxL_snoc, ← HBj.out])
            have hcs : c2 + cntL n t.xs ≤ 1048576 := by
              have h1 : ((wxs.take (j + 1)).map (fun s => cntL n s.xs)).sum ≤ (wxs.map (fun s => cntL n s.xs)).sum := sum_take_le _ _ _
              have h2 := HCs.out
              have h3 := HCp.out
              omega
            generalize cntL n t.xs = ct at *
            generalize dpL n t.xs = dt at *
            cases ha
            clear hx hmem hto
            go_wp2_with (go_at_call 56; refine HCall.out.mono ?_; rintro e w5 ⟨rfl, hb5⟩)
            all_goals
              go_roundg g2
              case measure => omega
              case rel => exact ⟨j + 1, c2 + ct, max b2 dt, by omega, by go_num, int_eqv (by omega), int_eqv (by omega), bTrans hbj hb5, hcs, by omega, HCs, HBs⟩
          · obtain rfl : j = wxs.length := by omega
            have HCf : Hid (c2 = cn + cp) := Lib.hid (by
              have h1 := HCj.out
              rw [List.take_of_length_le (Nat.le_refl _)] at h1
              have h2 := HCp.out
              omega)
            have HBf : Hid (dpp = b2 + if kind = 6 then 1 else 0) := Lib.hid (by
              have h1 := HBj.out
              rw [List.take_of_length_le (Nat.le_refl _)] at h1
              rw [HDp.out, ← h1])
            obtain ⟨p0, p1, p2, p3, p4, p5⟩ := HBx.out.under hbj
            clear HCj HBj
            cases c6 : (kind == 6)
            case' true => have HF : Hid (dpp = b2 + 1) := Lib.hid (by rw [HBf.out, if_pos (by simpa using c6)])
            case' false => have HF : Hid (dpp = b2) := Lib.hid (by rw [HBf.out, if_neg (by simpa using c6)]; rfl)
            all_goals
              clear HBf
              go_wp2_with fail
            all_goals
              go_roundg g
              case measure => omega
              case rel => exact ⟨k + 1, c2, max de dpp, by omega, by go_num, rfl, int_eqv (by have := HF.out; omega), bTrans hb3 hbj, by omega, by omega, Lib.hid (by rw [HC2.out]; exact HCf.out), Lib.hid HD2.out.symm⟩
      · obtain rfl : k = xs.length := by omega
        rw [List.take_of_length_le (Nat.le_refl _)] at HC HD
        go_wp2_with fail
        go_ret2
        exact ⟨by rw [← HC.out, ← HD.out]; rfl, hb⟩
end Go.Proofs.YtfenmeacimfiaaaGreatDoor
namespace Go.Proofs.YtfenmeacimfiaaaGreatDoor
open Go.RowKit

set_option maxHeartbeats 2000000 in
set_option maxRecDepth 100000 in
theorem globSize_any : ∀ (n : Nat) (s : Sl (P n)) (w : World), SOk w n s → szL n s.xs ≤ 1048576 → s.xs.length ≤ 1048576 →
    Calls Tryz.prog 51 #[.slice s.a s.xs.length s.c] w fun e w' => e = .returned (.tuple #[.int .i64 (cntL n s.xs), .int .i64 (dpL n s.xs)]) ∧ Below w.heap.size w w' := by
  intro n
  induction n with
  | zero =>
    intro s w hs _ _
    obtain ⟨a, c, xs⟩ := s
    cases xs with
    | cons x _ => exact nomatch x
    | nil =>
      go_enter Tryz.func51, Tryz.ntmps51
      go_wp2_with fail
      refine wp_loop_rounds 1 ?_
      rw [rounds_succ]
      go_wp2_with fail
      go_ret2
      exact ⟨rfl, Below.refl _ _⟩
  | succ n ih =>
    rintro ⟨sa, sc, xs⟩ w hs hz hlen
    simp only [] at hz hlen
    have HS := Lib.hid hs
    have HIH := Lib.hid ih
    clear hs ih
    go_enter Tryz.func51, Tryz.ntmps51
    go_wp2_with fail
    go_loopg [2, 3, 12] xs.length (fun g s2 s3 i wx => ∃ (k cn de : Nat), k + g = xs.length ∧ i = .int .i64 k ∧ s2 = .int .i64 cn ∧ s3 = .int .i64 de ∧ Below w.heap.size w wx ∧ cn ≤ 1048576 ∧ de ≤ 1048576 ∧ Hid (cn = cntL (n + 1) (xs.take k)) ∧ Hid (de = dpL (n + 1) (xs.take k)))
    case atStart => exact ⟨0, 0, 0, by omega, rfl, rfl, rfl, Below.refl _ _, by omega, by omega, Lib.hid rfl, Lib.hid rfl⟩
    case round =>
      obtain ⟨k, cn, de, hk, rfl, rfl, rfl, hb, hcn, hde, HC, HD⟩ := hrel
      by_cases hlt : k < xs.length
      · obtain ⟨g, rfl⟩ : ∃ g, gk = g + 1 := ⟨gk - 1, by omega⟩
        obtain ⟨p, hx⟩ : ∃ p : PartOf (P n), xs[k]? = some p := ⟨_, List.getElem?_eq_getElem hlt⟩
        obtain ⟨ba, off, ha, hba, r0, r1, r2, r3, r4⟩ := partRow (HS.out.1.under hb) hx
        have hpo : POk w (n + 1) p := HS.out.2 p (List.mem_of_getElem? hx)
        have HPo := Lib.hid hpo
        have HC2 : Hid (cntL (n + 1) (xs.take (k + 1)) = cn + cnt (n + 1) p) := Lib.hid (by unfold cntL at *; rw [take_map_snoc _ hx, List.sum_append, ← HC.out]; simp)
        have HD2 : Hid (dpL (n + 1) (xs.take (k + 1)) = max de (dp (n + 1) p)) := Lib.hid (by unfold dpL at *; rw [take_map_snoc _ hx, maxL_snoc, ← HD.out])
        have hcn2 : cn + cnt (n + 1) p ≤ 1048576 := by
          have h1 := cntL_le (n + 1) (xs.take (k + 1))
          have h2 : szL (n + 1) (xs.take (k + 1)) ≤ szL (n + 1) xs := sum_take_le _ _ _
          rw [HC2.out] at h1
          omega
        have hde2 : dp (n + 1) p ≤ 1048576 := by
          have h1 := dp_le (n + 1) p
          have h2 : sz (n + 1) p ≤ szL (n + 1) xs := le_sum (List.mem_map.2 ⟨p, List.mem_of_getElem? hx, rfl⟩)
          omega
        have hsp : sz (n + 1) p ≤ 1048576 := by
          have h2 : sz (n + 1) p ≤ szL (n + 1) xs := le_sum (List.mem_map.2 ⟨p, List.mem_of_getElem? hx, rfl⟩)
          omega
        have HBx := Lib.hid (partBox_new wr p 212)
        have hbx : Below wr.heap.size wr (wr.alloc (.cells #[.int .i64 p.kind, .string p.text, .bool p.neg, .slice p.rg.a p.rg.xs.length p.rg.c, .slice p.ways.a p.ways.xs.length p.ways.c] 212)) := bAlloc (Below.refl _ _) _
        have HCp : Hid (cnt (n + 1) p = 1 + (p.ways.xs.map (fun s => cntL n s.xs)).sum) := Lib.hid rfl
        have HDp : Hid (dp (n + 1) p = maxL (p.ways.xs.map (fun s => dpL n s.xs)) + if p.kind = 6 then 1 else 0) := Lib.hid rfl
        have hwl : p.ways.xs.length ≤ 1048576 ∧ (p.ways.xs.map (fun s => 1 + szL n s.xs)).sum ≤ 1048576 := by
          have h1 : sz (n + 1) p = 1 + p.text.size + p.rg.xs.length + (p.ways.xs.map (fun s => 1 + szL n s.xs)).sum := rfl
          have h2 : p.ways.xs.length ≤ (p.ways.xs.map (fun s => 1 + szL n s.xs)).sum := by
            have := sum_mono (xs := p.ways.xs) (f := fun _ => 1) (g := fun s => 1 + szL n s.xs) (fun s _ => by omega)
            rw [sum_ones1] at this
            exact this
          omega
        generalize cnt (n + 1) p = cp at *
        generalize dp (n + 1) p = dpp at *
        clear hx hsp hpo
        obtain ⟨hwl, hws⟩ := hwl
        cases ha
        obtain ⟨kind, text, neg, ⟨ra, rc, rxs⟩, ⟨wa, wc, wxs⟩⟩ := p
        simp only [] at *
        go_upto_region 4 with fail
        generalize wr.alloc _ = w3 at *
        clear r0 r1 r2 r3 r4
        have hb3 := bTrans hb hbx
        obtain ⟨p0, p1, p2, p3, p4, p5⟩ := HBx.out
        obtain ⟨wo, rfl⟩ : ∃ wo : World, wo = wr := ⟨_, rfl⟩
        go_wp2_with fail
        obtain ⟨ee, hee⟩ : ∃ ee : Nat, (if kind = 6 then 1 else 0) = ee := ⟨_, rfl⟩
        have hee1 : ee ≤ 1 := by rw [← hee]; split <;> omega
        rw [hee] at HDp
        have HEE := Lib.hid hee
        clear hee
        go_loopg [2, 3, 21] wxs.length (fun g s2 s3 i wx => ∃ (j c2 d2 : Nat), j + g = wxs.length ∧ i = .int .i64 j ∧ s2 = .int .i64 c2 ∧ s3 = .int .i64 d2 ∧ Below w3.heap.size w3 wx ∧ c2 ≤ 1048576 ∧ d2 ≤ 1048577 ∧ Hid (c2 = cn + 1 + ((wxs.take j).map (fun s => cntL n s.xs)).sum) ∧ Hid (d2 = if j = 0 then de else max de (maxL ((wxs.take j).map (fun s => dpL n s.xs)) + ee)))
        case atStart => exact ⟨0, cn + 1, de, by omega, rfl, int_eqv (by omega), rfl, Below.refl _ _, by have := HCp.out; omega, by omega, Lib.hid rfl, Lib.hid rfl⟩
        case round =>
          obtain ⟨j, c2, d2, hj, rfl, rfl, rfl, hbj, hc2, hd2, HCj, HBj⟩ := hrel
          by_cases hlt2 : j < wxs.length
          · obtain ⟨g2, rfl⟩ : ∃ g2, gk = g2 + 1 := ⟨gk - 1, by omega⟩
            obtain ⟨t, hx⟩ : ∃ t : Sl (P n), wxs[j]? = some t := ⟨_, List.getElem?_eq_getElem hlt2⟩
            obtain ⟨bw, ow, ha, hbw, r0⟩ := wayRow (HPo.out.2.2.2.1.under (bTrans hb3 hbj)) hx
            have hmem := List.mem_of_getElem? hx
            have hto : SOk w n t := HPo.out.2.2.2.2 t hmem
            have hszt : 1 + szL n t.xs ≤ 1048576 := Nat.le_trans (le_sum (List.mem_map.2 ⟨t, hmem, rfl⟩ : (1 + szL n t.xs) ∈ wxs.map (fun s => 1 + szL n s.xs))) hws
            have hlt3 : t.xs.length ≤ 1048576 := by have := len_le_sz n t.xs; omega
            have HCall := Lib.hid (HIH.out t wr (hto.under (bTrans hb3 hbj)) (by omega) hlt3)
            have hcb := cntL_le n t.xs
            have hdb := dpL_le n t.xs
            have HCs : Hid (c2 + cntL n t.xs = cn + 1 + ((wxs.take (j + 1)).map (fun s => cntL n s.xs)).sum) := Lib.hid (by rw [take_map_snoc _ hx, List.sum_append, HCj.out]; simp; omega)
            have HBs : Hid (max d2 (dpL n t.xs + ee) = if j + 1 = 0 then de else max de (maxL ((wxs.take (j + 1)).map (fun s => dpL n s.xs)) + ee)) := Lib.hid (by
              rw [if_neg (by omega), take_map_snoc _ hx, maxL_snoc, HBj.out]
              by_cases e0 : j = 0
              · subst e0
                rw [if_pos rfl]
                simp only [List.take_zero, List.map_nil]
                show max de _ = max de (max (maxL []) _ + ee)
                have : maxL [] = 0 := rfl
                omega
              · rw [if_neg e0]
                omega)
            have hcs : c2 + cntL n t.xs ≤ 1048576 := by
              have h1 : ((wxs.take (j + 1)).map (fun s => cntL n s.xs)).sum ≤ (wxs.map (fun s => cntL n s.xs)).sum := sum_take_le _ _ _
              have h2 := HCs.out
              have h3 := HCp.out
              omega
            generalize cntL n t.xs = ct at *
            generalize dpL n t.xs = dt at *
            cases ha
            clear hx hmem hto
            cases c6 : (kind == 6)
            case' true => have HE1 : Hid (ee = 1) := Lib.hid (by rw [← HEE.out, if_pos (by simpa using c6)])
            case' false => have HE1 : Hid (ee = 0) := Lib.hid (by rw [← HEE.out, if_neg (by simpa using c6)])
            all_goals
              go_wp2_with (go_at_call 51; refine HCall.out.mono ?_; rintro e w5 ⟨rfl, hb5⟩; obtain ⟨p0, p1, p2, p3, p4, p5⟩ := HBx.out.under (bTrans hbj hb5))
            all_goals
              go_roundg g2
              case measure => omega
              case rel => exact ⟨j + 1, c2 + ct, max d2 (dt + ee), by omega, by go_num, int_eqv (by omega), int_eqv (by have := HE1.out; omega), bTrans hbj hb5, hcs, by omega, HCs, HBs⟩
          · obtain rfl : j = wxs.length := by omega
            have HCf : Hid (c2 = cn + cp) := Lib.hid (by
              have h1 := HCj.out
              rw [List.take_of_length_le (Nat.le_refl _)] at h1
              have h2 := HCp.out
              omega)
            have HBf : Hid (max de dpp = max d2 ee) := Lib.hid (by
              have h1 := HBj.out
              rw [List.take_of_length_le (Nat.le_refl _)] at h1
              rw [HDp.out, h1]
              by_cases e0 : wxs.length = 0
              · rw [if_pos e0]
                have : wxs = [] := List.length_eq_zero_iff.1 e0
                subst this
                show max de (maxL [] + ee) = _
                have : maxL [] = 0 := rfl
                omega
              · rw [if_neg e0]
                omega)
            obtain ⟨p0, p1, p2, p3, p4, p5⟩ := HBx.out.under hbj
            clear HCj HBj
            cases c6 : (kind == 6)
            case' true => have HE1 : Hid (ee = 1) := Lib.hid (by rw [← HEE.out, if_pos (by simpa using c6)])
            case' false => have HE1 : Hid (ee = 0) := Lib.hid (by rw [← HEE.out, if_neg (by simpa using c6)])
            all_goals
              go_wp2_with fail
            all_goals
              go_roundg g
              case measure => omega
              case rel => exact ⟨k + 1, c2, max de dpp, by omega, by go_num, rfl, int_eqv (by have := HE1.out; have := HBf.out; omega), bTrans hb3 hbj, by omega, by omega, Lib.hid (by rw [HC2.out]; exact HCf.out), Lib.hid HD2.out.symm⟩
      · obtain rfl : k = xs.length := by omega
        rw [List.take_of_length_le (Nat.le_refl _)] at HC HD
        go_wp2_with fail
        go_ret2
        exact ⟨by rw [← HC.out, ← HD.out]; rfl, hb⟩
end Go.Proofs.YtfenmeacimfiaaaGreatDoor
namespace Go.Proofs.YtfenmeacimfiaaaGreatDoor
open Go.RowKit

/-- The form of a part is wrong: its text, set and ways are there or not; its ranges are none; its text holds a 0. -/
def formBad (kind : Int) (tb sb wb re nul : Bool) : Bool := if kind = 1 then sb || wb || !tb || nul else if kind = 5 then tb || wb || re else if kind = 6 then tb || sb || !wb else tb || sb || wb
def hasNul (s : ByteArray) : Bool := s.data.toList.contains 0
def partBad {α : Type} (p : PartOf α) : Bool := formBad p.kind (!p.text.toList.isEmpty) (p.neg || decide (0 < p.rg.xs.length)) (decide (0 < p.ways.xs.length)) (decide (p.rg.xs.length = 0)) (hasNul p.text)

def formErr {α : Type} (p : PartOf α) : Int := if partBad p then 6 else 0

abbrev partVal {α : Type} (p : PartOf α) : Value := .agg #[.int .i64 p.kind, .string p.text, .bool p.neg, .slice p.rg.a p.rg.xs.length p.rg.c, .slice p.ways.a p.ways.xs.length p.ways.c]

set_option maxHeartbeats 4000000 in
set_option maxRecDepth 100000 in
theorem partForm_any {α : Type} (p : PartOf α) (w : World) (h1 : p.rg.xs.length ≤ 1048576) (h2 : p.ways.xs.length ≤ 1048576) :
    Calls Tryz.prog 121 #[partVal p] w fun e w' => e = .returned (.int .i64 (formErr p)) ∧ Below w.heap.size w w' := by
  have HB0 := Lib.hid (partBox_new w p 212)
  have HN := Lib.hid (hasByte_any p.text 0)
  have HP : Hid (formErr p = if formBad p.kind (!p.text.toList.isEmpty) (p.neg || decide (0 < p.rg.xs.length)) (decide (0 < p.ways.xs.length)) (decide (p.rg.xs.length = 0)) (hasNul p.text) then 6 else 0) := Lib.hid rfl
  have hb0 := bAlloc (Below.refl w.heap.size w) (.cells #[.int .i64 p.kind, .string p.text, .bool p.neg, .slice p.rg.a p.rg.xs.length p.rg.c, .slice p.ways.a p.ways.xs.length p.ways.c] 212)
  generalize formErr p = E at *
  obtain ⟨kind, text, neg, ⟨ra, rc, rxs⟩, ⟨wa, wc, wxs⟩⟩ := p
  simp only [] at *
  go_enter Tryz.func121, Tryz.ntmps121
  go_upto_region 1 with fail
  generalize w.alloc _ = w1 at *
  obtain ⟨p0, p1, p2, p3, p4, p5⟩ := HB0.out
  go_cut [3, 4, 5] (fun s3 s4 s5 wx => s3 = .bool (!text.toList.isEmpty) ∧ s4 = .bool (neg || decide (0 < rxs.length)) ∧ s5 = .bool (decide (0 < wxs.length)) ∧ Below w1.heap.size w1 wx)
  case first =>
    cases neg
    all_goals
      go_quiet (fail)
      go_wp2_with fail
      go_meet
      refine ⟨?_, ?_, ?_, bDrewN (Below.refl _ _) _⟩
      all_goals first | rfl | (simp; done)
  case rest =>
    obtain ⟨rfl, rfl, rfl, hb1⟩ := hcut
    obtain ⟨p0, p1, p2, p3, p4, p5⟩ := HB0.out.under hb1
    have e5 : ((rxs.length : Int) == 0) = decide (rxs.length = 0) := by
      rw [Bool.eq_iff_iff]
      simp
    change Hid (∀ W, Calls Tryz.prog 131 #[.string text, .int .u8 0] W fun e w' => e = .returned (.bool (hasNul text)) ∧ w' = W) at HN
    generalize (!text.toList.isEmpty) = tb at *
    generalize (neg || decide (0 < rxs.length)) = sb at *
    generalize decide (0 < wxs.length) = wb at *
    generalize decide (rxs.length = 0) = re at *
    generalize hasNul text = nul at *
    have hbb := bTrans hb0 hb1
    clear hb0 hb1 HB0
    by_cases k1 : kind = 1
    · subst k1
      cases sb <;> cases wb <;> cases tb <;> cases nul
      all_goals
        go_wp2_with (go_at_call 131; refine (HN.out _).mono ?_; rintro e w5 ⟨rfl, rfl⟩)
        go_ret
        exact ⟨ret_int (by rw [HP.out]; rfl), hbb⟩
    have q1 : (kind == 1) = false := by simp [k1]
    by_cases k5 : kind = 5
    · subst k5
      clear q1 k1
      cases tb <;> cases wb <;> cases re
      all_goals
        go_wp2_with fail
        go_ret
        exact ⟨ret_int (by rw [HP.out]; rfl), hbb⟩
    have q5 : (kind == 5) = false := by simp [k5]
    by_cases k6 : kind = 6
    · subst k6
      clear q1 k1 q5 k5
      cases tb <;> cases sb <;> cases wb
      all_goals
        go_wp2_with fail
        go_ret
        exact ⟨ret_int (by rw [HP.out]; rfl), hbb⟩
    have q6 : (kind == 6) = false := by simp [k6]
    have HP2 : Hid (E = if (tb || sb || wb) then 6 else 0) := Lib.hid (by rw [HP.out]; unfold formBad; rw [if_neg k1, if_neg k5, if_neg k6])
    clear k1 k5 k6 HP
    cases tb <;> cases sb <;> cases wb
    all_goals
      go_wp2_with fail
      go_ret
      exact ⟨ret_int (by rw [HP2.out]; rfl), hbb⟩
end Go.Proofs.YtfenmeacimfiaaaGreatDoor
namespace Go.Proofs.YtfenmeacimfiaaaGreatDoor
open Go.RowKit

def rgBad (a b : Int) : Bool := decide (a < 1) || decide (255 < a) || decide (b < 1) || decide (255 < b) || decide (b < a) || (decide (a ≤ 47) && decide (47 ≤ b))
/-- The error of ranges, behind one that ends in 'prev'. -/
def rgGo : Option Int → List (Int × Int) → Int
  | _, [] => 0
  | prev, r :: l => if rgBad r.1 r.2 then 7 else if (match prev with | none => false | some b => decide (r.1 ≤ b + 1)) then 10 else rgGo (some r.2) l
def rgNear (prev : Option Int) (a : Int) : Bool := match prev with | none => false | some b => decide (a ≤ b + 1)
theorem rgGo_cons (prev : Option Int) (r : Int × Int) (l : List (Int × Int)) : rgGo prev (r :: l) = if rgBad r.1 r.2 then 7 else if rgNear prev r.1 then 10 else rgGo (some r.2) l := by
  cases prev <;> rfl
def rgErr (l : List (Int × Int)) : Int := rgGo none l
theorem rgBad_no {a b : Int} (h : rgBad a b = false) : 1 ≤ a ∧ a ≤ 255 ∧ 1 ≤ b ∧ b ≤ 255 ∧ a ≤ b := by
  unfold rgBad at h
  simp at h
  omega

/-- A block that holds a pair. -/
def PairBox (w : World) (b : Nat) (x y : Int) : Prop := b < w.heap.size ∧ w.cell? ⟨b, 0, none⟩ = some (.int .i64 x) ∧ w.cell? ⟨b, 1, none⟩ = some (.int .i64 y)
theorem PairBox.under {w w' : World} {b : Nat} {x y : Int} (h : PairBox w b x y) (hb : Below w.heap.size w w') : PairBox w' b x y := by
  obtain ⟨h0, h1, h2⟩ := h
  exact ⟨Nat.lt_of_lt_of_le h0 hb.size, (hb.cell (p := ⟨b, 0, none⟩) h0).trans h1, (hb.cell (p := ⟨b, 1, none⟩) h0).trans h2⟩
theorem pairBox_new (w : World) (x y : Int) (t : TypeId) : PairBox (w.alloc (.cells #[.int .i64 x, .int .i64 y] t)) w.heap.size x y := by
  refine ⟨by simp, ?_, ?_⟩ <;> (rw [World.cell?_alloc_at _ _ _ _ rfl]; rfl)
theorem pairRow {w : World} {s : Sl (Int × Int)} (h : SlHolds w 2 rgCells s) {k : Nat} {r : Int × Int} (hk : s.xs[k]? = some r) :
    ∃ b off, s.a = some ⟨b, off, none⟩ ∧ b < w.heap.size ∧ w.cell? ⟨b, off + k * 2, none⟩ = some (.int .i64 r.1) ∧ w.cell? ⟨b, off + k * 2 + 1, none⟩ = some (.int .i64 r.2) := by
  obtain ⟨b, off, ha, hb, hc⟩ := h.1.at (k := k) (row := rgCells r) (by rw [List.getElem?_map, hk]; rfl)
  exact ⟨b, off, ha, hb, hc 0 _ rfl, hc 1 _ rfl⟩

set_option maxHeartbeats 4000000 in
set_option maxRecDepth 100000 in
theorem rangesForm_any (s : Sl (Int × Int)) (w : World) (hs : SlHolds w 2 rgCells s) (hl : s.xs.length ≤ 1048576) :
    Calls Tryz.prog 122 #[.slice s.a s.xs.length s.c] w fun e w' => e = .returned (.int .i64 (rgErr s.xs)) ∧ Below w.heap.size w w' := by
  have HS := Lib.hid hs
  obtain ⟨E, hE⟩ : ∃ E, rgErr s.xs = E := ⟨_, rfl⟩
  have HE := Lib.hid hE
  rw [hE]
  clear hs hE
  obtain ⟨sa, sc, xs⟩ := s
  simp only [] at *
  go_enter Tryz.func122, Tryz.ntmps122
  go_wp2_with fail
  go_loopg [9] xs.length (fun g i wx => ∃ k : Nat, k + g = xs.length ∧ i = .int .i64 k ∧ Below w.heap.size w wx ∧ Hid (E = rgGo (if k = 0 then none else (xs[k - 1]?.map (·.2))) (xs.drop k)) ∧ Hid (∀ i (r : Int × Int), i < k → xs[i]? = some r → 1 ≤ r.2 ∧ r.2 ≤ 255))
  case atStart => exact ⟨0, by omega, rfl, Below.refl _ _, Lib.hid HE.out.symm, Lib.hid (fun i _ hi => absurd hi (by omega))⟩
  case round =>
    obtain ⟨k, hk, rfl, hb, HG, HA⟩ := hrel
    by_cases hlt : k < xs.length
    · obtain ⟨g, rfl⟩ : ∃ g, gk = g + 1 := ⟨gk - 1, by omega⟩
      obtain ⟨⟨x, y⟩, hx⟩ : ∃ r : Int × Int, xs[k]? = some r := ⟨_, List.getElem?_eq_getElem hlt⟩
      obtain ⟨ba, off, ha, hba, r0, r1⟩ := pairRow (HS.out.under hb) hx
      have hdr : xs.drop k = (x, y) :: xs.drop (k + 1) := by rw [List.drop_eq_getElem_cons hlt, (List.getElem?_eq_some_iff.1 hx).2]
      rw [hdr, rgGo_cons] at HG
      simp only [] at HG ha r0 r1
      have HX := Lib.hid hx
      subst ha
      have HBx := Lib.hid (pairBox_new wr x y 164)
      have hbx : Below wr.heap.size wr (wr.alloc (.cells #[.int .i64 x, .int .i64 y] 164)) := bAlloc (Below.refl _ _) _
      clear hx hdr
      go_upto_region 4 with fail
      generalize wr.alloc _ = w3 at *
      have hb3 := bTrans hb hbx
      obtain ⟨p0, p1, p2⟩ := HBx.out
      clear r0 r1
      go_quiet (fail)
      cases hbad : rgBad x y
      case true =>
        have HB7 : Hid (E = 7) := Lib.hid (by rw [HG.out, hbad]; rfl)
        have hor : x < 1 ∨ (¬ x < 1 ∧ 255 < x) ∨ (¬ x < 1 ∧ ¬ 255 < x ∧ y < 1) ∨ (¬ x < 1 ∧ ¬ 255 < x ∧ ¬ y < 1 ∧ 255 < y) ∨ (¬ x < 1 ∧ ¬ 255 < x ∧ ¬ y < 1 ∧ ¬ 255 < y ∧ y < x) ∨ (¬ x < 1 ∧ ¬ 255 < x ∧ ¬ y < 1 ∧ ¬ 255 < y ∧ ¬ y < x ∧ x ≤ 47 ∧ 47 ≤ y) := by
          unfold rgBad at hbad
          simp only [Bool.or_eq_true, Bool.and_eq_true, decide_eq_true_eq] at hbad
          omega
        clear HG hbad
        rcases hor with d1 | ⟨d1, d2⟩ | ⟨d1, d2, d3⟩ | ⟨d1, d2, d3, d4⟩ | ⟨d1, d2, d3, d4, d5⟩ | ⟨d1, d2, d3, d4, d5, d6, d7⟩
        all_goals
          go_wp2_with fail
          go_ret
          exact ⟨ret_int HB7.out.symm, bDrewN hb3 _⟩
      obtain ⟨x1, x2, y1, y2, xy⟩ := rgBad_no hbad
      have hor : (x ≤ 47 ∧ ¬ 47 ≤ y) ∨ ¬ x ≤ 47 := by
        unfold rgBad at hbad
        simp only [Bool.or_eq_false_iff, Bool.and_eq_false_iff, decide_eq_false_iff_not] at hbad
        omega
      rw [hbad] at HG
      have d1 : ¬ x < 1 := by omega
      have d2 : ¬ 255 < x := by omega
      have d3 : ¬ y < 1 := by omega
      have d4 : ¬ 255 < y := by omega
      have d5 : ¬ y < x := by omega
      clear hbad
      rcases hor with ⟨d6, d7⟩ | d6
      all_goals
        have HA2 : Hid (∀ i (r : Int × Int), i < k + 1 → xs[i]? = some r → 1 ≤ r.2 ∧ r.2 ≤ 255) := Lib.hid (fun i r hi hr => by
          by_cases e : i = k
          · subst e
            rw [HX.out] at hr
            cases hr
            exact ⟨y1, y2⟩
          · exact HA.out i r (by omega) hr)
        have HNx : Hid ((if k + 1 = 0 then none else (xs[k + 1 - 1]?.map (·.2))) = some y) := Lib.hid (by rw [if_neg (by omega), Nat.add_sub_cancel, HX.out]; rfl)
        by_cases k0 : k = 0
        · subst k0
          have HG2 : Hid (E = rgGo (some y) (xs.drop (0 + 1))) := Lib.hid (by rw [HG.out]; rfl)
          clear HG
          go_wp2_with fail
          go_roundg g
          case measure => omega
          case rel => exact ⟨1, by omega, by go_num, bDrewN hb3 _, by rw [show (if (1 : Nat) = 0 then none else (xs[1 - 1]?.map (·.2))) = some y from HNx.out]; exact HG2, HA2⟩
        · obtain ⟨k', hk'⟩ : ∃ k', k = k' + 1 := ⟨k - 1, by omega⟩
          obtain ⟨⟨px, py⟩, hpx⟩ : ∃ r : Int × Int, xs[k']? = some r := ⟨_, List.getElem?_eq_getElem (by omega)⟩
          obtain ⟨ba', off', ha', hba', r0, r1⟩ := pairRow (HS.out.under hb3) hpx
          cases ha'
          obtain ⟨z1, z2⟩ := HA.out k' _ (by omega) hpx
          simp only [] at r0 r1 z1 z2
          have hki : (k : Int) - 1 = (k' : Int) := by omega
          have hkl : k' < xs.length := by omega
          have hk0 : 0 < k := by omega
          have HG3 : Hid (E = if decide (x ≤ py + 1) then 10 else rgGo (some y) (xs.drop (k + 1))) := Lib.hid (by
            rw [HG.out, if_neg (by decide), if_neg k0, show k - 1 = k' by omega, hpx]
            rfl)
          clear HG hpx hk' k0
          by_cases hnear : x ≤ py + 1
          · rw [decide_eq_true hnear] at HG3
            go_wp2_with fail
            go_ret
            exact ⟨ret_int (by rw [HG3.out]; rfl), bDrewN hb3 _⟩
          · rw [decide_eq_false hnear] at HG3
            go_wp2_with fail
            go_roundg g
            case measure => omega
            case rel => exact ⟨k + 1, by omega, by go_num, bDrewN hb3 _, by rw [HNx.out]; exact HG3, HA2⟩
    · have HG2 : Hid (E = 0) := Lib.hid (by rw [HG.out, List.drop_of_length_le (by omega)]; cases (if k = 0 then none else (xs[k - 1]?.map (·.2))) <;> rfl)
      go_wp2_with fail
      go_ret
      exact ⟨ret_int HG2.out.symm, hb⟩
end Go.Proofs.YtfenmeacimfiaaaGreatDoor
namespace Go.Proofs.YtfenmeacimfiaaaGreatDoor
open Go.RowKit

/-- The part's kind at a place, if there is one, is text. -/
def isTxt (ks : List Int) (i : Int) : Bool := decide (0 ≤ i) && (ks[i.toNat]? == some 1)
def kd : (n : Nat) → P n → Int
  | 0, _ => 0
  | n + 1, p => PartOf.kind (α := P n) p
def kdL (n : Nat) (xs : List (P n)) : List Int := xs.map (kd n)

theorem enters_isText : ∀ args w, (callFunc 120 args).run Tryz.prog w = .ok (.enter 120 args) w := enters_of Tryz.func120 (by kernel_rfl) rfl

set_option maxHeartbeats 2000000 in
set_option maxRecDepth 100000 in
theorem isText_any {n : Nat} (s : Sl (P (n + 1))) (i : Int) (b : Nat) (w : World) (hs : SlHolds w 5 (partCells (n + 1)) s) (hl : s.xs.length ≤ 1048576) (hc : w.cell? ⟨b, 0, none⟩ = some (.slice s.a s.xs.length s.c)) :
    Calls Tryz.prog 120 #[.int .i64 i, .pointer (some ⟨b, 0, none⟩)] w fun e w' => e = .returned (.bool (isTxt (kdL (n + 1) s.xs) i)) ∧ w = w' := by
  have HS := Lib.hid hs
  obtain ⟨sa, sc, xs⟩ := s
  simp only [] at *
  clear hs
  by_cases h0 : 0 ≤ i
  · by_cases h1 : i < xs.length
    · obtain ⟨k, rfl⟩ : ∃ k : Nat, i = (k : Int) := ⟨i.toNat, by omega⟩
      have hk : k < xs.length := by omega
      obtain ⟨p, hx⟩ : ∃ p : PartOf (P n), xs[k]? = some p := ⟨_, List.getElem?_eq_getElem hk⟩
      obtain ⟨ba, off, ha, hba, r0, r1, r2, r3, r4⟩ := partRow HS.out hx
      have HT : Hid (isTxt (kdL (n + 1) xs) (k : Int) = (p.kind == 1)) := Lib.hid (by
        unfold isTxt kdL
        rw [decide_eq_true h0, Int.toNat_natCast, List.getElem?_map, hx]
        show (true && (some p.kind == some 1)) = _
        cases h : (p.kind == 1) <;> simp_all)
      simp only [] at ha
      subst ha
      generalize isTxt (kdL (n + 1) xs) (k : Int) = R at *
      clear hx h0 h1
      cases c1 : (p.kind == 1)
      all_goals
        rw [c1] at HT
        go_enter Tryz.func120, Tryz.ntmps120
        go_wp2_with fail
        go_ret
        exact ⟨ret_bool HT.out.symm, rfl⟩
    · have HT : Hid (isTxt (kdL (n + 1) xs) i = false) := Lib.hid (by
        unfold isTxt kdL
        rw [List.getElem?_eq_none (by rw [List.length_map]; omega)]
        simp)
      generalize isTxt (kdL (n + 1) xs) i = R at *
      go_enter Tryz.func120, Tryz.ntmps120
      go_wp2_with fail
      go_ret
      exact ⟨ret_bool HT.out.symm, rfl⟩
  · have HT : Hid (isTxt (kdL (n + 1) xs) i = false) := Lib.hid (by
      unfold isTxt
      rw [decide_eq_false h0]
      simp)
    generalize isTxt (kdL (n + 1) xs) i = R at *
    go_enter Tryz.func120, Tryz.ntmps120
    go_wp2_with fail
    go_ret
    exact ⟨ret_bool HT.out.symm, rfl⟩
end Go.Proofs.YtfenmeacimfiaaaGreatDoor
namespace Go.Proofs.YtfenmeacimfiaaaGreatDoor
open Go.RowKit

def pt (n : Nat) (p : P (n + 1)) : PartOf (P n) := p
def firstErr : List Int → Int
  | [] => 0
  | e :: r => if e = 0 then firstErr r else e
def stepErr (n : Nat) (f : Sl (P n) → Int) (ks : List Int) (i : Nat) (p : P (n + 1)) : Int :=
  if (pt n p).kind < 1 ∨ 6 < (pt n p).kind then 5 else if formErr (pt n p) ≠ 0 then formErr (pt n p)
  else if isTxt ks i && (isTxt ks ((i : Int) - 1) || isTxt ks ((i : Int) + 1)) then 6 else if rgErr (pt n p).rg.xs ≠ 0 then rgErr (pt n p).rg.xs else firstErr ((pt n p).ways.xs.map f)
def chkGo (n : Nat) (f : Sl (P n) → Int) (ks : List Int) : Nat → List (P (n + 1)) → Int
  | _, [] => 0
  | i, p :: r => if stepErr n f ks i p = 0 then chkGo n f ks (i + 1) r else stepErr n f ks i p
/-- What checkParts returns. -/
def chk : (n : Nat) → List (P n) → Int
  | 0, _ => 0
  | n + 1, xs => chkGo n (fun s => chk n s.xs) (kdL (n + 1) xs) 0 xs

theorem chkGo_step {n : Nat} {f : Sl (P n) → Int} {ks : List Int} {xs : List (P (n + 1))} {k : Nat} {p : P (n + 1)} (h : xs[k]? = some p) : chkGo n f ks k (xs.drop k) = if stepErr n f ks k p = 0 then chkGo n f ks (k + 1) (xs.drop (k + 1)) else stepErr n f ks k p := by
  have hl := (List.getElem?_eq_some_iff.1 h).1
  rw [List.drop_eq_getElem_cons hl, (List.getElem?_eq_some_iff.1 h).2]
  rfl
theorem firstErr_step {l : List Int} {k : Nat} {e : Int} (h : l[k]? = some e) : firstErr (l.drop k) = if e = 0 then firstErr (l.drop (k + 1)) else e := by
  have hl := (List.getElem?_eq_some_iff.1 h).1
  rw [List.drop_eq_getElem_cons hl, (List.getElem?_eq_some_iff.1 h).2]
  rfl

set_option maxHeartbeats 4000000 in
set_option maxRecDepth 100000 in
theorem checkParts_any : ∀ (n : Nat) (s : Sl (P n)) (w : World), SOk w n s → szL n s.xs ≤ 1048576 →
    Calls Tryz.prog 57 #[.slice s.a s.xs.length s.c] w fun e w' => e = .returned (.int .i64 (chk n s.xs)) ∧ Below w.heap.size w w' := by
  intro n
  induction n with
  | zero =>
    intro s w hs _
    obtain ⟨a, c, xs⟩ := s
    cases xs with
    | cons x _ => exact nomatch x
    | nil =>
      go_enter Tryz.func57, Tryz.ntmps57
      go_wp2_with fail
      refine wp_loop_rounds 1 ?_
      rw [rounds_succ]
      go_wp2_with fail
      go_ret
      exact ⟨rfl, bAlloc (Below.refl _ _) _⟩
  | succ n ih =>
    rintro ⟨sa, sc, xs⟩ w hs hz
    have hlen : xs.length ≤ 1048576 := Nat.le_trans (len_le_sz (n + 1) xs) hz
    simp only [] at hz
    have HS := Lib.hid hs
    have HIH := Lib.hid ih
    have HTx := Lib.hid (fun W (hb : Below w.heap.size w W) i b hc => isText_any ⟨sa, sc, xs⟩ i b W (hs.1.under hb) hlen hc)
    obtain ⟨E, hE⟩ : ∃ E, chk (n + 1) xs = E := ⟨_, rfl⟩
    have HE : Hid (E = chkGo n (fun s => chk n s.xs) (kdL (n + 1) xs) 0 (xs.drop 0)) := Lib.hid hE.symm
    rw [hE]
    clear hs ih hE
    simp only [] at HTx
    generalize kdL (n + 1) xs = ks at *
    have hb0 := bAlloc (Below.refl w.heap.size w) (.cells #[.slice sa xs.length sc] 32)
    have hq0 : (w.alloc (.cells #[.slice sa xs.length sc] 32)).cell? ⟨w.heap.size, 0, none⟩ = some (.slice sa xs.length sc) := by rw [World.cell?_alloc_at _ _ _ _ rfl]; rfl
    have hqs : w.heap.size < (w.alloc (.cells #[.slice sa xs.length sc] 32)).heap.size := by simp
    go_enter Tryz.func57, Tryz.ntmps57
    go_upto_region 1 with fail
    generalize w.alloc _ = w1 at *
    have HQ := Lib.hid (fun W (hb : Below w1.heap.size w1 W) => (hb.cell (p := ⟨w.heap.size, 0, none⟩) hqs).trans hq0)
    go_wp2_with fail
    clear hq0
    go_loopg [14] xs.length (fun g i wx => ∃ k : Nat, k + g = xs.length ∧ i = .int .i64 k ∧ Below w1.heap.size w1 wx ∧ Hid (E = chkGo n (fun s => chk n s.xs) ks k (xs.drop k)))
    case atStart => exact ⟨0, by omega, rfl, Below.refl _ _, HE⟩
    case round =>
      clear HE
      obtain ⟨k, hk, rfl, hb, HE⟩ := hrel
      by_cases hlt : k < xs.length
      · obtain ⟨g, rfl⟩ : ∃ g, gk = g + 1 := ⟨gk - 1, by omega⟩
        obtain ⟨p, hx⟩ : ∃ p : P (n + 1), xs[k]? = some p := ⟨_, List.getElem?_eq_getElem hlt⟩
        obtain ⟨ba, off, ha, hba, r0, r1, r2, r3, r4⟩ := partRow (p := pt n p) ((HS.out.under (bTrans hb0 hb)).1) hx
        have HPo : Hid (POk w (n + 1) p) := Lib.hid (HS.out.2 p (List.mem_of_getElem? hx))
        rw [chkGo_step hx] at HE
        have hsp : sz (n + 1) p ≤ 1048576 := Nat.le_trans (le_sum (List.mem_map.2 ⟨p, List.mem_of_getElem? hx, rfl⟩)) hz
        have hszp : sz (n + 1) p = 1 + (pt n p).text.size + (pt n p).rg.xs.length + ((pt n p).ways.xs.map (fun s => 1 + szL n s.xs)).sum := rfl
        have hrl : (pt n p).rg.xs.length ≤ 1048576 := by omega
        have hws : ((pt n p).ways.xs.map (fun s => 1 + szL n s.xs)).sum ≤ 1048576 := by omega
        have hwl : (pt n p).ways.xs.length ≤ 1048576 := by
          have := sum_mono (xs := (pt n p).ways.xs) (f := fun _ => 1) (g := fun s => 1 + szL n s.xs) (fun s _ => by omega)
          rw [sum_ones1] at this
          omega
        obtain ⟨S, hS⟩ : ∃ S, stepErr n (fun s => chk n s.xs) ks k p = S := ⟨_, rfl⟩
        rw [hS] at HE
        have HSd : Hid (S = _) := Lib.hid hS.symm
        have HRet : Hid (S ≠ 0 → E = S) := Lib.hid (fun h => by rw [HE.out, if_neg h])
        have HGo : Hid (S = 0 → E = chkGo n (fun s => chk n s.xs) ks (k + 1) (xs.drop (k + 1))) := Lib.hid (fun h => by rw [HE.out, if_pos h])
        unfold stepErr at HSd
        have HPo2 : Hid (SlHolds w 2 rgCells (pt n p).rg ∧ SlHolds w 1 (fun s : Sl (P n) => [s.val]) (pt n p).ways ∧ ∀ s ∈ (pt n p).ways.xs, SOk w n s) := Lib.hid ⟨HPo.out.2.1, HPo.out.2.2.2.1, HPo.out.2.2.2.2⟩
        clear HPo hS HE hx hsp hszp
        generalize pt n p = q at *
        have HBx := Lib.hid (partBox_new wr q 212)
        have hbx : Below wr.heap.size wr (wr.alloc (.cells #[.int .i64 q.kind, .string q.text, .bool q.neg, .slice q.rg.a q.rg.xs.length q.rg.c, .slice q.ways.a q.ways.xs.length q.ways.c] 212)) := bAlloc (Below.refl _ _) _
        simp only [] at ha
        subst ha
        go_upto_region 5 with fail
        generalize wr.alloc _ = w3 at *
        clear r0 r1 r2 r3 r4
        have hb3 := bTrans hb hbx
        obtain ⟨p0, p1, p2, p3, p4, p5⟩ := HBx.out
        by_cases k1 : q.kind < 1
        · have HS5 : Hid (S = 5) := Lib.hid (by rw [HSd.out, if_pos (.inl k1)])
          clear HSd
          go_wp2_with fail
          go_ret
          exact ⟨ret_int (by rw [HRet.out (by rw [HS5.out]; decide), HS5.out]), bTrans hb0 hb3⟩
        by_cases k2 : 6 < q.kind
        · have HS5 : Hid (S = 5) := Lib.hid (by rw [HSd.out, if_pos (.inr k2)])
          clear HSd
          go_wp2_with fail
          go_ret
          exact ⟨ret_int (by rw [HRet.out (by rw [HS5.out]; decide), HS5.out]), bTrans hb0 hb3⟩
        replace HSd := Lib.hid (HSd.out.trans (if_neg (by omega)))
        have HF := Lib.hid (fun W => partForm_any q W hrl hwl)
        have HR := Lib.hid (fun W (hbW : Below w.heap.size w W) => rangesForm_any q.rg W (HPo2.out.1.under hbW) hrl)
        generalize formErr q = F at *
        generalize rgErr q.rg.xs = R at *
        by_cases hF : F = 0
        case neg =>
          have HS5 : Hid (S = F) := Lib.hid (by rw [HSd.out, if_pos hF])
          have hF' : (F != 0) = true := by simp [hF]
          have HFn := Lib.hid hF
          clear HSd hF
          go_wp2_with fail
          refine (HF.out _).mono ?_
          rintro e w4 ⟨rfl, hb4⟩
          go_wp2_with fail
          go_ret
          exact ⟨ret_int (by rw [HRet.out (by rw [HS5.out]; exact HFn.out), HS5.out]), bTrans hb0 (bTrans hb3 hb4)⟩
        subst hF
        replace HSd := Lib.hid (HSd.out.trans (if_neg (by decide)))
        go_wp2_with fail
        refine (HF.out _).mono ?_
        rintro e w4 ⟨rfl, hb4⟩
        go_upto_region 10 with fail
        have hb4' := bTrans hb3 hb4
        replace HBx := Lib.hid (HBx.out.under hb4)
        clear p0 p1 p2 p3 p4 p5 hb4 hb3 HF
        obtain ⟨p0, p1, p2, p3, p4, p5⟩ := HBx.out
        have HT1 := Lib.hid (fun i => HTx.out w4 (bTrans hb0 hb4') i w.heap.size (HQ.out w4 hb4'))
        generalize hta : isTxt ks (k : Int) = ta at *
        generalize htb : isTxt ks ((k : Int) - 1) = tb at *
        generalize htc : isTxt ks ((k : Int) + 1) = tc at *
        have HA1 := Lib.hid (HT1.out (k : Int))
        have HA2 := Lib.hid (HT1.out ((k : Int) - 1))
        have HA3 := Lib.hid (HT1.out ((k : Int) + 1))
        rw [hta] at HA1
        rw [htb] at HA2
        rw [htc] at HA3
        clear HT1 hta htb htc
        go_cut [46] (fun s46 wx => s46 = .bool (ta && (tb || tc)) ∧ w4 = wx)
        case first =>
          cases ta <;> cases tb <;> cases tc
          all_goals
            go_wp2_with (first | ((with_reducible refine HA1.out.mono ?_); rintro e w5 ⟨rfl, rfl⟩) | ((with_reducible refine HA2.out.mono ?_); rintro e w5 ⟨rfl, rfl⟩) | ((with_reducible refine HA3.out.mono ?_); rintro e w5 ⟨rfl, rfl⟩))
            go_meet
            exact ⟨rfl, rfl⟩
        case rest =>
          obtain ⟨rfl, rfl⟩ := hcut
          generalize (ta && (tb || tc)) = tx at *
          clear HA1 HA2 HA3
          cases tx
          case true =>
            have HS5 : Hid (S = 6) := Lib.hid (by rw [HSd.out]; rfl)
            go_wp2_with fail
            go_ret
            exact ⟨ret_int (by rw [HRet.out (by rw [HS5.out]; decide), HS5.out]), bTrans hb0 hb4'⟩
          replace HSd := Lib.hid (HSd.out.trans (if_neg (by decide)))
          by_cases hR : R = 0
          case neg =>
            have HS5 : Hid (S = R) := Lib.hid (by rw [HSd.out, if_pos hR])
            have hR' : (R != 0) = true := by simp [hR]
            have HRn := Lib.hid hR
            clear HSd hR
            go_wp2_with fail
            refine (HR.out _ (bTrans hb0 hb4')).mono ?_
            rintro e w5 ⟨rfl, hb5⟩
            go_wp2_with fail
            go_ret
            exact ⟨ret_int (by rw [HRet.out (by rw [HS5.out]; exact HRn.out), HS5.out]), bTrans hb0 (bTrans hb4' hb5)⟩
          subst hR
          replace HSd := Lib.hid (HSd.out.trans (if_neg (by decide)))
          go_wp2_with fail
          refine (HR.out _ (bTrans hb0 hb4')).mono ?_
          rintro e w5 ⟨rfl, hb5⟩
          have hb5' := bTrans hb4' hb5
          replace HBx := Lib.hid (HBx.out.under hb5)
          clear p0 p1 p2 p3 p4 p5 hb5 hb4' HR
          obtain ⟨kind, text, neg, rg, ⟨wa, wc, wxs⟩⟩ := q
          simp only [] at *
          obtain ⟨p0, p1, p2, p3, p4, p5⟩ := HBx.out
          obtain ⟨wo, rfl⟩ : ∃ wo : World, wo = wr := ⟨_, rfl⟩
          go_wp2_with fail
          go_loopg [56] wxs.length (fun g i wx => ∃ j : Nat, j + g = wxs.length ∧ i = .int .i64 j ∧ Below w5.heap.size w5 wx ∧ Hid (S = firstErr ((wxs.map (fun s => chk n s.xs)).drop j)))
          case atStart => exact ⟨0, by omega, rfl, Below.refl _ _, HSd⟩
          case round =>
            clear HSd
            obtain ⟨j, hj, rfl, hbj, HSj⟩ := hrel
            by_cases hlt2 : j < wxs.length
            · obtain ⟨g2, rfl⟩ : ∃ g2, gk = g2 + 1 := ⟨gk - 1, by omega⟩
              obtain ⟨t, hx⟩ : ∃ t : Sl (P n), wxs[j]? = some t := ⟨_, List.getElem?_eq_getElem hlt2⟩
              have hbw5 := bTrans (bTrans hb0 hb5') hbj
              obtain ⟨bw, ow, ha, hbw, r0⟩ := wayRow (HPo2.out.2.1.under hbw5) hx
              have hmem := List.mem_of_getElem? hx
              have hszt : 1 + szL n t.xs ≤ 1048576 := Nat.le_trans (le_sum (List.mem_map.2 ⟨t, hmem, rfl⟩ : (1 + szL n t.xs) ∈ wxs.map (fun s => 1 + szL n s.xs))) hws
              have HCall := Lib.hid (HIH.out t wr ((HPo2.out.2.2 t hmem).under hbw5) (by omega))
              rw [firstErr_step (e := chk n t.xs) (by rw [List.getElem?_map, hx]; rfl)] at HSj
              generalize chk n t.xs = C at *
              simp only [] at ha
              cases ha
              clear hx hmem
              by_cases hC : C = 0
              · subst hC
                replace HSj := Lib.hid (HSj.out.trans (if_pos rfl))
                go_wp2_with (go_at_call 57; refine HCall.out.mono ?_; rintro e w6 ⟨rfl, hb6⟩)
                go_roundg g2
                case measure => omega
                case rel => exact ⟨j + 1, by omega, by go_num, bTrans hbj hb6, HSj⟩
              · have HS5 : Hid (S = C) := Lib.hid (by rw [HSj.out, if_neg hC])
                have hC' : (C != 0) = true := by simp [hC]
                have HCn := Lib.hid hC
                clear hC HSj
                go_wp2_with (go_at_call 57; refine HCall.out.mono ?_; rintro e w6 ⟨rfl, hb6⟩)
                go_ret
                exact ⟨ret_int (by rw [HRet.out (by rw [HS5.out]; exact HCn.out), HS5.out]), bTrans hbw5 hb6⟩
            · have HS0 : Hid (S = 0) := Lib.hid (by rw [HSj.out, List.drop_of_length_le (by simp; omega)]; rfl)
              go_wp2_with fail
              go_roundg g
              case measure => omega
              case rel => exact ⟨k + 1, by omega, by go_num, bTrans hb5' hbj, Lib.hid (HGo.out HS0.out)⟩
      · have HE2 : Hid (E = 0) := Lib.hid (by rw [HE.out, List.drop_of_length_le (by omega)]; rfl)
        go_wp2_with fail
        go_ret
        exact ⟨ret_int HE2.out.symm, bTrans hb0 hb⟩
end Go.Proofs.YtfenmeacimfiaaaGreatDoor
namespace Go.Proofs.YtfenmeacimfiaaaGreatDoor
open Go.RowKit

def isStar (k : Int) : Bool := k == 3 || k == 4
def starAt (ks : List Int) (i : Int) : Bool := decide (0 ≤ i) && ((ks[i.toNat]?.map isStar).getD false)

set_option maxHeartbeats 1000000 in
theorem star_any {α : Type} (q : PartOf α) (w : World) : Calls Tryz.prog 123 #[partVal q] w fun e w' => e = .returned (.bool (isStar q.kind)) ∧ Below w.heap.size w w' := by
  have HK : Hid (isStar q.kind = (q.kind == 3 || q.kind == 4)) := Lib.hid rfl
  generalize isStar q.kind = R at *
  cases c3 : (q.kind == 3)
  · cases c4 : (q.kind == 4)
    all_goals
      have HR : Hid (R = _) := Lib.hid (HK.out.trans (by rw [c3, c4]))
      clear HK
      go_enter Tryz.func123, Tryz.ntmps123
      go_wp2_with fail
      go_ret
      exact ⟨ret_bool HR.out.symm, bAlloc (Below.refl _ _) _⟩
  · have HR : Hid (R = true) := Lib.hid (HK.out.trans (by rw [c3]; rfl))
    clear HK
    go_enter Tryz.func123, Tryz.ntmps123
    go_wp2_with fail
    go_ret
    exact ⟨ret_bool HR.out.symm, bAlloc (Below.refl _ _) _⟩

theorem enters_star : ∀ args w, (callFunc 123 args).run Tryz.prog w = .ok (.enter 123 args) w := enters_of Tryz.func123 (by kernel_rfl) rfl

def meetGo (n : Nat) (f : Sl (P n) → Bool) (ks : List Int) : Nat → List (P (n + 1)) → Bool
  | _, [] => false
  | i, p :: r => (decide (0 < i) && isStar (pt n p).kind && starAt ks ((i : Int) - 1)) || ((pt n p).ways.xs.any f) || meetGo n f ks (i + 1) r
/-- Stars stand directly behind stars. -/
def meet : (n : Nat) → List (P n) → Bool
  | 0, _ => false
  | n + 1, xs => meetGo n (fun s => meet n s.xs) (kdL (n + 1) xs) 0 xs
theorem meetGo_step {n : Nat} {f : Sl (P n) → Bool} {ks : List Int} {xs : List (P (n + 1))} {k : Nat} {p : P (n + 1)} (h : xs[k]? = some p) : meetGo n f ks k (xs.drop k) = ((decide (0 < k) && isStar (pt n p).kind && starAt ks ((k : Int) - 1)) || ((pt n p).ways.xs.any f) || meetGo n f ks (k + 1) (xs.drop (k + 1))) := by
  have hl := (List.getElem?_eq_some_iff.1 h).1
  rw [List.drop_eq_getElem_cons hl, (List.getElem?_eq_some_iff.1 h).2]
  rfl
end Go.Proofs.YtfenmeacimfiaaaGreatDoor
namespace Go.Proofs.YtfenmeacimfiaaaGreatDoor
open Go.RowKit

theorem any_step {α : Type} {f : α → Bool} {l : List α} {k : Nat} {x : α} (h : l[k]? = some x) : (l.drop k).any f = (f x || (l.drop (k + 1)).any f) := by
  have hl := (List.getElem?_eq_some_iff.1 h).1
  rw [List.drop_eq_getElem_cons hl, (List.getElem?_eq_some_iff.1 h).2, List.any_cons]

set_option maxHeartbeats 4000000 in
set_option maxRecDepth 100000 in
theorem starsMeet_any : ∀ (n : Nat) (s : Sl (P n)) (w : World), SOk w n s → szL n s.xs ≤ 1048576 →
    Calls Tryz.prog 58 #[.slice s.a s.xs.length s.c] w fun e w' => e = .returned (.bool (meet n s.xs)) ∧ Below w.heap.size w w' := by
  intro n
  induction n with
  | zero =>
    intro s w hs _
    obtain ⟨a, c, xs⟩ := s
    cases xs with
    | cons x _ => exact nomatch x
    | nil =>
      go_enter Tryz.func58, Tryz.ntmps58
      go_wp2_with fail
      refine wp_loop_rounds 1 ?_
      rw [rounds_succ]
      go_wp2_with fail
      go_ret
      exact ⟨rfl, Below.refl _ _⟩
  | succ n ih =>
    rintro ⟨sa, sc, xs⟩ w hs hz
    have hlen : xs.length ≤ 1048576 := Nat.le_trans (len_le_sz (n + 1) xs) hz
    simp only [] at hz
    have HS := Lib.hid hs
    have HIH := Lib.hid ih
    obtain ⟨E, hE⟩ : ∃ E, meet (n + 1) xs = E := ⟨_, rfl⟩
    have HE : Hid (E = meetGo n (fun s => meet n s.xs) (kdL (n + 1) xs) 0 (xs.drop 0)) := Lib.hid hE.symm
    rw [hE]
    clear hs ih hE
    go_enter Tryz.func58, Tryz.ntmps58
    go_wp2_with fail
    go_loopg [10] xs.length (fun g i wx => ∃ k : Nat, k + g = xs.length ∧ i = .int .i64 k ∧ Below w.heap.size w wx ∧ Hid (E = meetGo n (fun s => meet n s.xs) (kdL (n + 1) xs) k (xs.drop k)))
    case atStart => exact ⟨0, by omega, rfl, Below.refl _ _, HE⟩
    case round =>
      clear HE
      obtain ⟨k, hk, rfl, hb, HE⟩ := hrel
      by_cases hlt : k < xs.length
      · obtain ⟨g, rfl⟩ : ∃ g, gk = g + 1 := ⟨gk - 1, by omega⟩
        obtain ⟨p, hx⟩ : ∃ p : P (n + 1), xs[k]? = some p := ⟨_, List.getElem?_eq_getElem hlt⟩
        obtain ⟨ba, off, ha, hba, r0, r1, r2, r3, r4⟩ := partRow (p := pt n p) ((HS.out.under hb).1) hx
        have HPo : Hid (POk w (n + 1) p) := Lib.hid (HS.out.2 p (List.mem_of_getElem? hx))
        rw [meetGo_step hx] at HE
        have hsp : sz (n + 1) p ≤ 1048576 := Nat.le_trans (le_sum (List.mem_map.2 ⟨p, List.mem_of_getElem? hx, rfl⟩)) hz
        have hszp : sz (n + 1) p = 1 + (pt n p).text.size + (pt n p).rg.xs.length + ((pt n p).ways.xs.map (fun s => 1 + szL n s.xs)).sum := rfl
        have hws : ((pt n p).ways.xs.map (fun s => 1 + szL n s.xs)).sum ≤ 1048576 := by omega
        have hwl : (pt n p).ways.xs.length ≤ 1048576 := by
          have := sum_mono (xs := (pt n p).ways.xs) (f := fun _ => 1) (g := fun s => 1 + szL n s.xs) (fun s _ => by omega)
          rw [sum_ones1] at this
          omega
        have HPo2 : Hid (SlHolds w 1 (fun s : Sl (P n) => [s.val]) (pt n p).ways ∧ ∀ s ∈ (pt n p).ways.xs, SOk w n s) := Lib.hid ⟨HPo.out.2.2.2.1, HPo.out.2.2.2.2⟩
        clear HPo hx hsp hszp
        generalize pt n p = q at *
        have HBx := Lib.hid (partBox_new wr q 212)
        have hbx : Below wr.heap.size wr (wr.alloc (.cells #[.int .i64 q.kind, .string q.text, .bool q.neg, .slice q.rg.a q.rg.xs.length q.rg.c, .slice q.ways.a q.ways.xs.length q.ways.c] 212)) := bAlloc (Below.refl _ _) _
        simp only [] at ha
        subst ha
        go_upto_region 5 with fail
        generalize wr.alloc _ = w3 at *
        clear r0 r1 r2 r3 r4
        have hb3 := bTrans hb hbx
        obtain ⟨p0, p1, p2, p3, p4, p5⟩ := HBx.out
        generalize hM : (decide (0 < k) && isStar q.kind && starAt (kdL (n + 1) xs) ((k : Int) - 1)) = tm at *
        go_cut [30] (fun s30 wx => s30 = .bool tm ∧ Below w3.heap.size w3 wx)
        case first =>
          have HSt := Lib.hid (fun W => star_any q W)
          have HM := Lib.hid hM
          clear hM HE
          by_cases k0 : k = 0
          · subst k0
            go_wp2_with fail
            go_meet
            exact ⟨by rw [← HM.out]; rfl, Below.refl _ _⟩
          · obtain ⟨k', hk'⟩ : ∃ k', k = k' + 1 := ⟨k - 1, by omega⟩
            obtain ⟨r, hr⟩ : ∃ r : P (n + 1), xs[k']? = some r := ⟨_, List.getElem?_eq_getElem (by omega)⟩
            have HRow := Lib.hid (fun W (hbW : Below w3.heap.size w3 W) => partRow (p := pt n r) ((HS.out.under (bTrans hb3 hbW)).1) hr)
            have hki : (k : Int) - 1 = (k' : Int) := by omega
            have hk0 : 0 < k := by omega
            have hk'l : k' < xs.length := by omega
            have HMM : Hid (tm = (isStar q.kind && isStar (pt n r).kind)) := Lib.hid (by
              rw [← HM.out, hki, decide_eq_true hk0, Bool.true_and]
              congr 1
              unfold starAt kdL
              rw [Int.toNat_natCast, List.getElem?_map, hr]
              simp
              rfl)
            generalize pt n r = q2 at *
            have HSt2 := Lib.hid (fun W => star_any q2 W)
            generalize isStar q.kind = a1 at *
            generalize isStar q2.kind = a2 at *
            clear HM hr hk' k0
            cases a1
            · go_wp2_with fail
              refine (HSt.out _).mono ?_
              rintro e w4 ⟨rfl, hb4⟩
              go_wp2_with fail
              go_meet
              exact ⟨by rw [HMM.out]; rfl, hb4⟩
            · go_wp2_with fail
              refine (HSt.out _).mono ?_
              rintro e w4 ⟨rfl, hb4⟩
              obtain ⟨ba', off', ha', hba', r0, r1, r2, r3, r4⟩ := HRow.out w4 hb4
              cases ha'
              go_wp2_with fail
              refine (HSt2.out _).mono ?_
              rintro e w5 ⟨rfl, hb5⟩
              go_wp2_with fail
              go_meet
              exact ⟨by rw [HMM.out]; rfl, bTrans hb4 hb5⟩
        case rest =>
          obtain ⟨rfl, hb4⟩ := hcut
          clear hM
          replace HBx := Lib.hid (HBx.out.under hb4)
          have hb4' := bTrans hb3 hb4
          clear p0 p1 p2 p3 p4 p5 hb4 hb3
          cases tm
          case true =>
            have HT : Hid (E = true) := Lib.hid (by rw [HE.out]; simp)
            go_wp2_with fail
            go_ret
            exact ⟨ret_bool HT.out.symm, hb4'⟩
          generalize hX : meetGo n (fun s => meet n s.xs) (kdL (n + 1) xs) (k + 1) (xs.drop (k + 1)) = X at *
          have HXe := Lib.hid hX
          clear hX
          obtain ⟨w5, rfl⟩ : ∃ w5 : World, w5 = wc := ⟨_, rfl⟩
          obtain ⟨kind, text, neg, rg, ⟨wa, wcap, wxs⟩⟩ := q
          simp only [] at *
          have HE0 : Hid (E = ((wxs.drop 0).any (fun s => meet n s.xs) || X)) := Lib.hid (by rw [HE.out]; simp)
          clear HE
          obtain ⟨p0, p1, p2, p3, p4, p5⟩ := HBx.out
          obtain ⟨wo, rfl⟩ : ∃ wo : World, wo = wr := ⟨_, rfl⟩
          go_wp2_with fail
          go_loopg [34] wxs.length (fun g i wx => ∃ j : Nat, j + g = wxs.length ∧ i = .int .i64 j ∧ Below w5.heap.size w5 wx ∧ Hid (E = ((wxs.drop j).any (fun s => meet n s.xs) || X)))
          case atStart => exact ⟨0, by omega, rfl, Below.refl _ _, HE0⟩
          case round =>
            clear HE0
            obtain ⟨j, hj, rfl, hbj, HEj⟩ := hrel
            by_cases hlt2 : j < wxs.length
            · obtain ⟨g2, rfl⟩ : ∃ g2, gk = g2 + 1 := ⟨gk - 1, by omega⟩
              obtain ⟨t, hx⟩ : ∃ t : Sl (P n), wxs[j]? = some t := ⟨_, List.getElem?_eq_getElem hlt2⟩
              have hbw5 := bTrans hb4' hbj
              obtain ⟨bw, ow, ha, hbw, r0⟩ := wayRow (HPo2.out.1.under hbw5) hx
              have hmem := List.mem_of_getElem? hx
              have hszt : 1 + szL n t.xs ≤ 1048576 := Nat.le_trans (le_sum (List.mem_map.2 ⟨t, hmem, rfl⟩ : (1 + szL n t.xs) ∈ wxs.map (fun s => 1 + szL n s.xs))) hws
              have HCall := Lib.hid (HIH.out t wr ((HPo2.out.2 t hmem).under hbw5) (by omega))
              rw [any_step hx] at HEj
              generalize meet n t.xs = C at *
              simp only [] at ha
              cases ha
              clear hx hmem
              cases C
              · go_wp2_with (go_at_call 58; refine HCall.out.mono ?_; rintro e w6 ⟨rfl, hb6⟩)
                go_roundg g2
                case measure => omega
                case rel => exact ⟨j + 1, by omega, by go_num, bTrans hbj hb6, Lib.hid (by rw [HEj.out]; simp)⟩
              · have HT : Hid (E = true) := Lib.hid (by rw [HEj.out]; simp)
                go_wp2_with (go_at_call 58; refine HCall.out.mono ?_; rintro e w6 ⟨rfl, hb6⟩)
                go_ret
                exact ⟨ret_bool HT.out.symm, bTrans hbw5 hb6⟩
            · have HX0 : Hid (E = X) := Lib.hid (by rw [HEj.out, List.drop_of_length_le (by omega)]; simp)
              go_wp2_with fail
              go_roundg g
              case measure => omega
              case rel => exact ⟨k + 1, by omega, by go_num, bTrans hb4' hbj, Lib.hid (by rw [HXe.out]; exact HX0.out)⟩
      · have HE2 : Hid (E = false) := Lib.hid (by rw [HE.out, List.drop_of_length_le (by omega)]; rfl)
        go_wp2_with fail
        go_ret
        exact ⟨ret_bool HE2.out.symm, hb⟩
end Go.Proofs.YtfenmeacimfiaaaGreatDoor
namespace Go.Proofs.YtfenmeacimfiaaaGreatDoor
open Go.RowKit

def spc (d : Bool) (c : UInt8) : Bool := ([92, 42, 63, 91, 93, 123, 125] : List UInt8).contains c || (d && c == 44)
def esc1 (f : UInt8 → Bool) (c : UInt8) : List UInt8 := if f c then [92, c] else [c]
def escL (f : UInt8 → Bool) (l : List UInt8) : List UInt8 := l.flatMap (esc1 f)
def bndS (c : UInt8) : Bool := ([92, 93, 94, 45] : List UInt8).contains c
def bnd (n : Int) : List UInt8 := esc1 bndS (UInt8.ofNat n.toNat)
def rgTxt (r : Int × Int) : List UInt8 := bnd r.1 ++ (if r.1 + 1 < r.2 then [45] else []) ++ (if r.1 < r.2 then bnd r.2 else [])
def setTxt (neg : Bool) (rg : List (Int × Int)) : List UInt8 := [91] ++ (if neg then [94] else []) ++ rg.flatMap rgTxt ++ [93]
def waysTxt (l : List (List UInt8)) : List UInt8 := [123] ++ Lib.join l [44] ++ [125]
def txtOf {α : Type} (f : Sl α → List UInt8) (d : Bool) (p : PartOf α) : List UInt8 :=
  if p.kind = 1 then escL (spc d) p.text.data.toList else if p.kind = 2 then [63] else if p.kind = 3 then [42] else if p.kind = 4 then [42, 42] else if p.kind = 5 then setTxt p.neg p.rg.xs else if p.kind = 6 then waysTxt (p.ways.xs.map f) else []
/-- The text of parts. -/
def txt : (n : Nat) → Bool → List (P n) → List UInt8
  | 0, _, _ => []
  | n + 1, d, xs => xs.flatMap (fun p => txtOf (fun s => txt n true s.xs) d (pt n p))

/-- What right parts are, as far as their text asks. -/
def Good : (n : Nat) → List (P n) → Prop
  | 0, _ => True
  | n + 1, xs => ∀ p ∈ xs, (1 ≤ (pt n p).kind ∧ (pt n p).kind ≤ 6) ∧ partBad (pt n p) = false ∧ (∀ r ∈ (pt n p).rg.xs, (1 ≤ r.1 ∧ r.1 ≤ 255) ∧ 1 ≤ r.2 ∧ r.2 ≤ 255) ∧ ∀ s ∈ (pt n p).ways.xs, Good n s.xs

theorem firstErr_zero : ∀ {l : List Int}, firstErr l = 0 → ∀ e ∈ l, e = 0
  | [], _, _, h => nomatch h
  | x :: r, h, e, he => by
    unfold firstErr at h
    by_cases hx : x = 0
    · rw [if_pos hx] at h
      rcases List.mem_cons.1 he with rfl | he
      · exact hx
      · exact firstErr_zero h e he
    · rw [if_neg hx] at h
      exact absurd h hx
theorem rgGo_zero : ∀ {l : List (Int × Int)} {prev : Option Int}, rgGo prev l = 0 → ∀ r ∈ l, (1 ≤ r.1 ∧ r.1 ≤ 255) ∧ 1 ≤ r.2 ∧ r.2 ≤ 255
  | [], _, _, _, h => nomatch h
  | x :: r, prev, h, e, he => by
    rw [rgGo_cons] at h
    cases hb : rgBad x.1 x.2
    · rw [hb] at h
      rw [if_neg (by decide)] at h
      have hr : rgGo (some x.2) r = 0 := by
        cases hn : rgNear prev x.1
        · rw [hn] at h
          exact h
        · rw [hn, if_pos rfl] at h
          exact absurd h (by decide)
      rcases List.mem_cons.1 he with rfl | he
      · have := rgBad_no hb
        exact ⟨⟨this.1, this.2.1⟩, this.2.2.1, this.2.2.2.1⟩
      · exact rgGo_zero hr e he
    · rw [hb, if_pos rfl] at h
      exact absurd h (by decide)
theorem chkGo_zero {n : Nat} {f : Sl (P n) → Int} {ks : List Int} : ∀ {xs : List (P (n + 1))} {i : Nat}, chkGo n f ks i xs = 0 → ∀ p ∈ xs, ∃ j, stepErr n f ks j p = 0
  | [], _, _, _, h => nomatch h
  | x :: r, i, h, p, hp => by
    unfold chkGo at h
    by_cases hx : stepErr n f ks i x = 0
    · rw [if_pos hx] at h
      rcases List.mem_cons.1 hp with rfl | hp
      · exact ⟨i, hx⟩
      · exact chkGo_zero h p hp
    · rw [if_neg hx] at h
      exact absurd h hx
theorem stepErr_zero {n : Nat} {f : Sl (P n) → Int} {ks : List Int} {j : Nat} {p : P (n + 1)} (h : stepErr n f ks j p = 0) : (1 ≤ (pt n p).kind ∧ (pt n p).kind ≤ 6) ∧ partBad (pt n p) = false ∧ (∀ r ∈ (pt n p).rg.xs, (1 ≤ r.1 ∧ r.1 ≤ 255) ∧ 1 ≤ r.2 ∧ r.2 ≤ 255) ∧ ∀ s ∈ (pt n p).ways.xs, f s = 0 := by
  unfold stepErr at h
  by_cases k1 : (pt n p).kind < 1 ∨ 6 < (pt n p).kind
  · rw [if_pos k1] at h
    exact absurd h (by decide)
  rw [if_neg k1] at h
  by_cases k2 : formErr (pt n p) = 0
  case neg =>
    rw [if_pos k2] at h
    exact absurd h k2
  rw [if_neg (by simpa using k2)] at h
  have hb : partBad (pt n p) = false := by
    unfold formErr at k2
    cases hb : partBad (pt n p)
    · rfl
    · rw [hb, if_pos rfl] at k2
      exact absurd k2 (by decide)
  cases k3 : (isTxt ks j && (isTxt ks ((j : Int) - 1) || isTxt ks ((j : Int) + 1)))
  case true =>
    rw [k3, if_pos rfl] at h
    exact absurd h (by decide)
  rw [k3, if_neg (by decide)] at h
  by_cases k4 : rgErr (pt n p).rg.xs = 0
  case neg =>
    rw [if_pos k4] at h
    exact absurd h k4
  rw [if_neg (by simpa using k4)] at h
  exact ⟨by omega, hb, rgGo_zero k4, fun s hs => firstErr_zero h _ (List.mem_map.2 ⟨s, hs, rfl⟩)⟩
theorem good_of_chk : ∀ (n : Nat) (xs : List (P n)), chk n xs = 0 → Good n xs
  | 0, _, _ => trivial
  | n + 1, xs, h => fun p hp => by
    obtain ⟨j, hj⟩ := chkGo_zero (i := 0) h p hp
    obtain ⟨a, b, c, d⟩ := stepErr_zero hj
    exact ⟨a, b, c, fun s hs => good_of_chk n s.xs (d s hs)⟩

theorem flat_le {α : Type} {f : α → List UInt8} {g : α → Nat} : ∀ {l : List α}, (∀ x ∈ l, (f x).length ≤ g x) → (l.flatMap f).length ≤ (l.map g).sum
  | [], _ => by simp
  | x :: l, h => by
    rw [List.flatMap_cons, List.length_append, List.map_cons, List.sum_cons]
    have h1 := h x (by simp)
    have h2 := flat_le (l := l) (fun y hy => h y (by simp [hy]))
    omega
theorem esc1_len (f : UInt8 → Bool) (c : UInt8) : (esc1 f c).length ≤ 2 := by
  unfold esc1
  split <;> simp
theorem const_sum {α : Type} (l : List α) (k : Nat) : (l.map (fun _ => k)).sum = l.length * k := by
  induction l with
  | nil => simp
  | cons x l ih => rw [List.map_cons, List.sum_cons, ih, List.length_cons, Nat.add_mul, Nat.one_mul]; omega
theorem escL_len (f : UInt8 → Bool) (l : List UInt8) : (escL f l).length ≤ l.length * 2 := by
  have := flat_le (l := l) (f := esc1 f) (g := fun _ => 2) (fun c _ => esc1_len f c)
  rw [const_sum] at this
  exact this
theorem rgTxt_len (r : Int × Int) : (rgTxt r).length ≤ 5 := by
  unfold rgTxt bnd
  have h1 := esc1_len bndS (UInt8.ofNat r.1.toNat)
  have h2 := esc1_len bndS (UInt8.ofNat r.2.toNat)
  rw [List.length_append, List.length_append]
  split <;> split <;> simp <;> omega
theorem setTxt_len (neg : Bool) (l : List (Int × Int)) : (setTxt neg l).length ≤ 3 + l.length * 5 := by
  have := flat_le (l := l) (f := rgTxt) (g := fun _ => 5) (fun r _ => rgTxt_len r)
  rw [const_sum] at this
  unfold setTxt
  simp only [List.length_append, List.length_cons, List.length_nil]
  cases neg <;> simp only [if_true, if_false, Bool.false_eq_true, List.length_cons, List.length_nil] <;> omega
theorem lens_succ (l : List (List UInt8)) : (l.map (fun x => x.length + 1)).sum = Lib.lens l + l.length := by
  induction l with
  | nil => rfl
  | cons x l ih =>
    rw [List.map_cons, List.sum_cons, ih, List.length_cons]
    unfold Lib.lens
    rw [List.map_cons, List.sum_cons]
    omega
theorem join_len (l : List (List UInt8)) : (Lib.join l [44]).length ≤ (l.map (fun x => x.length + 1)).sum := by
  cases l with
  | nil => simp [Lib.join_nil]
  | cons x r =>
    rw [Lib.join_cons, List.length_append, Lib.joinTail_length, lens_succ]
    unfold Lib.lens
    rw [List.map_cons, List.sum_cons]
    simp only [List.length_cons, List.length_nil]
    omega
theorem txt_len : ∀ (n : Nat) (d : Bool) (xs : List (P n)), (txt n d xs).length ≤ 6 * szL n xs
  | 0, _, _ => Nat.zero_le _
  | n + 1, d, xs => by
    have h := flat_le (l := xs) (f := fun p => txtOf (fun s => txt n true s.xs) d (pt n p)) (g := fun p => 6 * sz (n + 1) p) (fun p _ => by
      have hs : sz (n + 1) p = 1 + (pt n p).text.size + (pt n p).rg.xs.length + ((pt n p).ways.xs.map (fun s => 1 + szL n s.xs)).sum := rfl
      rw [hs]
      unfold txtOf
      have e1 := escL_len (spc d) (pt n p).text.data.toList
      have e2 : (pt n p).text.data.toList.length = (pt n p).text.size := (Lib.size_eq _).symm
      have e3 := setTxt_len (pt n p).neg (pt n p).rg.xs
      have e4 := join_len ((pt n p).ways.xs.map (fun s => txt n true s.xs))
      have e5 : (((pt n p).ways.xs.map (fun s => txt n true s.xs)).map (fun x => x.length + 1)).sum ≤ 6 * ((pt n p).ways.xs.map (fun s => 1 + szL n s.xs)).sum := by
        rw [List.map_map]
        have := sum_mono (xs := (pt n p).ways.xs) (f := (fun x : List UInt8 => x.length + 1) ∘ (fun s => txt n true s.xs)) (g := fun s => 6 * (1 + szL n s.xs)) (fun s _ => by
          have := txt_len n true s.xs
          show (txt n true s.xs).length + 1 ≤ _
          omega)
        have hm : ((pt n p).ways.xs.map (fun s => 6 * (1 + szL n s.xs))).sum = 6 * ((pt n p).ways.xs.map (fun s => 1 + szL n s.xs)).sum := by
          generalize (pt n p).ways.xs = l
          induction l with
          | nil => rfl
          | cons a l ih => rw [List.map_cons, List.sum_cons, List.map_cons, List.sum_cons, ih]; omega
        omega
      split
      · omega
      split
      · simp; omega
      split
      · simp; omega
      split
      · simp; omega
      split
      · omega
      split
      · unfold waysTxt
        simp only [List.length_append, List.length_cons, List.length_nil]
        omega
      · simp)
    have hm : (xs.map (fun p => 6 * sz (n + 1) p)).sum = 6 * szL (n + 1) xs := by
      unfold szL
      generalize xs = l
      induction l with
      | nil => rfl
      | cons a l ih => rw [List.map_cons, List.sum_cons, List.map_cons, List.sum_cons, ih]; omega
    rw [hm] at h
    exact h
end Go.Proofs.YtfenmeacimfiaaaGreatDoor
namespace Go.Proofs.YtfenmeacimfiaaaGreatDoor
open Go.RowKit

def refStep (n : Nat) (f : Sl (P n) → Int) (ks : List Int) (i : Nat) (p : P (n + 1)) : Int :=
  if (pt n p).kind < 1 ∨ 6 < (pt n p).kind then 5 else if partBad (pt n p) then 6
  else if isTxt ks i && isTxt ks ((i : Int) - 1) then 6 else if rgErr (pt n p).rg.xs ≠ 0 then rgErr (pt n p).rg.xs else firstErr ((pt n p).ways.xs.map f)
def rchkGo (n : Nat) (f : Sl (P n) → Int) (ks : List Int) : Nat → List (P (n + 1)) → Int
  | _, [] => 0
  | i, p :: r => if refStep n f ks i p = 0 then rchkGo n f ks (i + 1) r else refStep n f ks i p
/-- What the reference's checkParts returns. -/
def rchk : (n : Nat) → List (P n) → Int
  | 0, _ => 0
  | n + 1, xs => rchkGo n (fun s => rchk n s.xs) (kdL (n + 1) xs) 0 xs
theorem rchkGo_step {n : Nat} {f : Sl (P n) → Int} {ks : List Int} {xs : List (P (n + 1))} {k : Nat} {p : P (n + 1)} (h : xs[k]? = some p) : rchkGo n f ks k (xs.drop k) = if refStep n f ks k p = 0 then rchkGo n f ks (k + 1) (xs.drop (k + 1)) else refStep n f ks k p := by
  have hl := (List.getElem?_eq_some_iff.1 h).1
  rw [List.drop_eq_getElem_cons hl, (List.getElem?_eq_some_iff.1 h).2]
  rfl

theorem text_bare {α : Type} {p : PartOf α} (h1 : p.kind = 1) (h : partBad p = false) : p.rg.xs = [] ∧ p.ways.xs = [] ∧ p.text.data.toList ≠ [] := by
  unfold partBad formBad at h
  rw [if_pos h1] at h
  simp only [Bool.or_eq_false_iff, decide_eq_false_iff_not, Bool.not_not] at h
  obtain ⟨⟨⟨⟨_, a⟩, b⟩, c⟩, _⟩ := h
  rw [Lib.toList_data] at c
  refine ⟨List.length_eq_zero_iff.1 (by omega), List.length_eq_zero_iff.1 (by omega), fun e => ?_⟩
  rw [e] at c
  exact absurd c (by decide)
theorem ways_some {α : Type} {p : PartOf α} (h1 : p.kind = 6) (h : partBad p = false) : p.ways.xs ≠ [] := by
  unfold partBad formBad at h
  rw [if_neg (by omega), if_neg (by omega), if_pos h1] at h
  intro e
  rw [e] at h
  simp at h
theorem refStep_eq {n : Nat} {f : Sl (P n) → Int} {ks : List Int} {i : Nat} {p : P (n + 1)} (h : (isTxt ks i && isTxt ks ((i : Int) - 1)) = (isTxt ks i && (isTxt ks ((i : Int) - 1) || isTxt ks ((i : Int) + 1)))) : refStep n f ks i p = stepErr n f ks i p := by
  unfold refStep stepErr formErr
  rw [h]
  cases partBad (pt n p) <;> rfl
theorem isTxt_nat (ks : List Int) (i : Nat) : isTxt ks (i : Int) = (ks[i]? == some 1) := by
  unfold isTxt
  rw [decide_eq_true (by omega), Int.toNat_natCast]
  rfl
theorem rchkGo_eq {n : Nat} {f : Sl (P n) → Int} {ks : List Int} : ∀ (l : List (P (n + 1))) (i : Nat), (∀ j, ks[i + j]? = (l.map (kd (n + 1)))[j]?) → rchkGo n f ks i l = chkGo n f ks i l
  | [], _, _ => rfl
  | p :: r, i, hk => by
    have ih := rchkGo_eq (f := f) r (i + 1) (fun j => by
      have := hk (j + 1)
      rw [show i + 1 + j = i + (j + 1) by omega, this]
      rfl)
    have k0 : ks[i]? = some (pt n p).kind := hk 0
    have k1 : ks[i + 1]? = (r.map (kd (n + 1)))[0]? := hk 1
    unfold rchkGo chkGo
    by_cases hsame : (isTxt ks i && isTxt ks ((i : Int) - 1)) = (isTxt ks i && (isTxt ks ((i : Int) - 1) || isTxt ks ((i : Int) + 1)))
    · rw [refStep_eq hsame, ih]
    · have ht : isTxt ks i = true ∧ isTxt ks ((i : Int) - 1) = false ∧ isTxt ks ((i : Int) + 1) = true := by
        revert hsame
        cases isTxt ks i <;> cases isTxt ks ((i : Int) - 1) <;> cases isTxt ks ((i : Int) + 1) <;> decide
      obtain ⟨t0, t1, t2⟩ := ht
      have e0 : (pt n p).kind = 1 := by
        rw [isTxt_nat, k0] at t0
        simpa using t0
      have t2' : isTxt ks ((i + 1 : Nat) : Int) = true := by rw [← t2]; congr 1
      cases r with
      | nil =>
        rw [isTxt_nat, k1] at t2'
        simp at t2'
      | cons q r' =>
        have e1 : (pt n q).kind = 1 := by
          rw [isTxt_nat, k1] at t2'
          have : kd (n + 1) q = 1 := by simpa using t2'
          exact this
        cases hb : partBad (pt n p)
        · have hs : stepErr n f ks i p = 6 := by
            unfold stepErr formErr
            rw [if_neg (by omega), hb, if_neg (by decide), t0, t1, t2]
            rfl
          obtain ⟨g1, g2, _⟩ := text_bare e0 hb
          have hr : refStep n f ks i p = 0 := by
            unfold refStep
            rw [if_neg (by omega), hb, if_neg (by decide), t0, t1, g1, g2]
            rfl
          have hq : refStep n f ks (i + 1) q = 6 := by
            unfold refStep
            rw [if_neg (by omega)]
            cases hb2 : partBad (pt n q)
            · have t0' : isTxt ks (((i + 1 : Nat) : Int) - 1) = true := by rw [← t0]; congr 1; omega
              rw [if_neg (by decide), t2', t0']
              rfl
            · rfl
          rw [hs, hr, if_pos rfl, if_neg (by decide)]
          unfold rchkGo
          rw [hq]
          rfl
        · have hs : stepErr n f ks i p = 6 := by
            unfold stepErr formErr
            rw [if_neg (by omega), hb]
            rfl
          have hr : refStep n f ks i p = 6 := by
            unfold refStep
            rw [if_neg (by omega), hb]
            rfl
          rw [hs, hr]
          rfl
theorem rchk_eq : ∀ (n : Nat) (xs : List (P n)), rchk n xs = chk n xs
  | 0, _ => rfl
  | n + 1, xs => by
    have hf : (fun s : Sl (P n) => rchk n s.xs) = (fun s => chk n s.xs) := funext fun s => rchk_eq n s.xs
    show rchkGo n (fun s => rchk n s.xs) (kdL (n + 1) xs) 0 xs = chkGo n (fun s => chk n s.xs) (kdL (n + 1) xs) 0 xs
    rw [hf]
    exact rchkGo_eq xs 0 (fun j => by rw [Nat.zero_add]; rfl)

/-- An odd number of backslashes stands at the end. -/
def oddB (b : Bool) (l : List UInt8) : Bool := l.foldl (fun b c => c == 92 && !b) b
theorem oddB_append (b : Bool) (l m : List UInt8) : oddB b (l ++ m) = oddB (oddB b l) m := List.foldl_append
theorem oddB_last (b : Bool) (l : List UInt8) (c : UInt8) (h : (c == 92) = false) : oddB b (l ++ [c]) = false := by
  rw [oddB_append]
  show (c == 92 && _) = false
  rw [h]
  rfl
theorem odd_esc (f : UInt8 → Bool) (h : f 92 = true) : ∀ (l : List UInt8), oddB false (escL f l) = false
  | [] => rfl
  | c :: l => by
    have ih := odd_esc f h l
    show oddB false (esc1 f c ++ escL f l) = false
    rw [oddB_append]
    have : oddB false (esc1 f c) = false := by
      unfold esc1
      by_cases hc : c = 92
      · rw [hc, h]
        rfl
      · split
        · exact oddB_last _ [92] c (by simpa using hc)
        · exact oddB_last _ [] c (by simpa using hc)
    rw [this]
    exact ih
theorem odd_txtOf {α : Type} (f : Sl α → List UInt8) (d : Bool) (p : PartOf α) : oddB false (txtOf f d p) = false := by
  unfold txtOf
  split
  · exact odd_esc _ (by cases d <;> rfl) _
  split
  · rfl
  split
  · rfl
  split
  · rfl
  split
  · unfold setTxt
    exact oddB_last _ _ _ (by decide)
  split
  · unfold waysTxt
    exact oddB_last _ _ _ (by decide)
  · rfl
theorem odd_flat {α : Type} {f : α → List UInt8} (h : ∀ x, oddB false (f x) = false) : ∀ (l : List α), oddB false (l.flatMap f) = false
  | [] => rfl
  | x :: l => by rw [List.flatMap_cons, oddB_append, h x, odd_flat h l]
theorem odd_txt (n : Nat) (d : Bool) (xs : List (P n)) : oddB false (txt n d xs) = false := by
  cases n with
  | zero => rfl
  | succ n => exact odd_flat (fun p => odd_txtOf _ d (pt n p)) xs

/-- The last part is a text that ends in a slash. -/
def lastSl : (n : Nat) → List (P n) → Bool
  | 0, _ => false
  | n + 1, xs => match xs.getLast? with
    | none => false
    | some p => decide ((pt n p).kind = 1) && (pt n p).text.data.toList.getLast? == some 47
def suffN (dirs last : Bool) (s : List UInt8) : List UInt8 := if !dirs && last then s.dropLast ++ [92, 47] else s
def preG (rooted : Bool) (s : List UInt8) : List UInt8 := if !rooted && s.head? == some 47 then 92 :: s else s
def wrapG (rooted dirs : Bool) (s : List UInt8) : List UInt8 := (if rooted then 47 :: s else s) ++ (if dirs then [47] else [])
def suffR (dirs : Bool) (s : List UInt8) : List UInt8 := if !dirs && s.getLast? == some 47 && !oddB false s.dropLast then s.dropLast ++ [92, 47] else s
def gtxtN (rooted dirs : Bool) (n : Nat) (xs : List (P n)) : List UInt8 := wrapG rooted dirs (preG rooted (suffN dirs (lastSl n xs) (txt n false xs)))
def gtxtR (rooted dirs : Bool) (n : Nat) (xs : List (P n)) : List UInt8 := wrapG rooted dirs (suffR dirs (preG rooted (txt n false xs)))

theorem escL_append (f : UInt8 → Bool) (a b : List UInt8) : escL f (a ++ b) = escL f a ++ escL f b := by simp [escL]
theorem escL_last (f : UInt8 → Bool) (a : List UInt8) (c : UInt8) : (escL f (a ++ [c])).getLast? = some c := by
  rw [escL_append, List.getLast?_append]
  have : (escL f [c]).getLast? = some c := by
    unfold escL esc1
    rw [List.flatMap_cons, List.flatMap_nil, List.append_nil]
    split <;> rfl
  rw [this]
  rfl
theorem txtOf_last {α : Type} {f : Sl α → List UInt8} {d : Bool} {p : PartOf α} (hk : 1 ≤ p.kind ∧ p.kind ≤ 6) (hb : partBad p = false) :
    ∃ c, (txtOf f d p).getLast? = some c ∧ ((c == 47) = (decide (p.kind = 1) && p.text.data.toList.getLast? == some 47)) := by
  unfold txtOf
  by_cases k1 : p.kind = 1
  · rw [if_pos k1]
    obtain ⟨_, _, hne⟩ := text_bare k1 hb
    obtain ⟨a, c, hac⟩ : ∃ a c, p.text.data.toList = a ++ [c] := ⟨_, _, (List.dropLast_concat_getLast hne).symm⟩
    refine ⟨c, by rw [hac]; exact escL_last _ _ _, ?_⟩
    rw [hac, decide_eq_true k1, List.getLast?_append]
    simp
  rw [if_neg k1, decide_eq_false k1]
  by_cases k2 : p.kind = 2
  · exact ⟨63, by rw [if_pos k2]; rfl, rfl⟩
  rw [if_neg k2]
  by_cases k3 : p.kind = 3
  · exact ⟨42, by rw [if_pos k3]; rfl, rfl⟩
  rw [if_neg k3]
  by_cases k4 : p.kind = 4
  · exact ⟨42, by rw [if_pos k4]; rfl, rfl⟩
  rw [if_neg k4]
  by_cases k5 : p.kind = 5
  · exact ⟨93, by rw [if_pos k5]; unfold setTxt; rw [List.getLast?_append]; rfl, rfl⟩
  rw [if_neg k5, if_pos (by omega)]
  exact ⟨125, by unfold waysTxt; rw [List.getLast?_append]; rfl, rfl⟩
theorem txt_ends (n : Nat) (d : Bool) (xs : List (P n)) (hg : Good n xs) (hne : xs ≠ []) : ∃ c, (txt n d xs).getLast? = some c ∧ (c == 47) = lastSl n xs := by
  cases n with
  | zero =>
    cases xs with
    | nil => exact absurd rfl hne
    | cons x _ => exact nomatch x
  | succ n =>
    obtain ⟨a, p, hap⟩ : ∃ a p, xs = a ++ [p] := ⟨_, _, (List.dropLast_concat_getLast hne).symm⟩
    obtain ⟨h1, h2, _⟩ := hg p (by rw [hap]; simp)
    obtain ⟨c, hc, he⟩ := txtOf_last (f := fun s => txt n true s.xs) (d := d) h1 h2
    refine ⟨c, ?_, ?_⟩
    · show (xs.flatMap _).getLast? = _
      rw [hap, List.flatMap_append, List.getLast?_append]
      have : ([p].flatMap (fun p => txtOf (fun s => txt n true s.xs) d (pt n p))).getLast? = some c := by simpa using hc
      rw [this]
      rfl
    · rw [he]
      unfold lastSl
      rw [hap]
      simp
theorem txt_slash (n : Nat) (d : Bool) (xs : List (P n)) (h : lastSl n xs = true) : ∃ s0, txt n d xs = s0 ++ [47] ∧ oddB false s0 = false := by
  cases n with
  | zero => exact absurd h Bool.false_ne_true
  | succ n =>
    have hne : xs ≠ [] := by
      rintro rfl
      exact absurd h Bool.false_ne_true
    obtain ⟨a, p, hap⟩ : ∃ a p, xs = a ++ [p] := ⟨_, _, (List.dropLast_concat_getLast hne).symm⟩
    unfold lastSl at h
    rw [hap] at h
    simp only [List.getLast?_append, List.getLast?_singleton, Option.some_or, Bool.and_eq_true, decide_eq_true_eq, beq_iff_eq] at h
    obtain ⟨k1, hl⟩ := h
    have hne2 : (pt n p).text.data.toList ≠ [] := by
      intro e
      rw [e] at hl
      exact absurd hl (by decide)
    obtain ⟨t, c, htc⟩ : ∃ t c, (pt n p).text.data.toList = t ++ [c] := ⟨_, _, (List.dropLast_concat_getLast hne2).symm⟩
    rw [htc, List.getLast?_append] at hl
    obtain rfl : c = 47 := by simpa using hl
    refine ⟨txt (n + 1) d a ++ escL (spc d) t, ?_, ?_⟩
    · show xs.flatMap _ = _
      rw [hap, List.flatMap_append, List.append_assoc]
      congr 1
      show txtOf _ d (pt n p) ++ [] = _
      rw [List.append_nil]
      unfold txtOf
      rw [if_pos k1, htc, escL_append]
      congr 1
      cases d <;> rfl
    · rw [oddB_append, odd_txt (n + 1) d a]
      exact odd_esc _ (by cases d <;> rfl) _
/-- The two texts of a glob are one. -/
theorem gtxt_eq (rooted dirs : Bool) (n : Nat) (xs : List (P n)) (hg : Good n xs) (hne : xs ≠ []) : gtxtR rooted dirs n xs = gtxtN rooted dirs n xs := by
  unfold gtxtR gtxtN
  congr 1
  obtain ⟨c, hc, he⟩ := txt_ends n false xs hg hne
  cases hd : dirs
  case true => simp [suffN, suffR]
  cases hL : lastSl n xs
  · have hc47 : (c == 47) = false := by rw [he, hL]
    have hlast : (preG rooted (txt n false xs)).getLast? = some c := by
      unfold preG
      split
      · rw [List.getLast?_cons, hc]
        rfl
      · exact hc
    unfold suffR suffN
    rw [hlast]
    have : (some c == some (47 : UInt8)) = false := by simpa using hc47
    rw [this]
    simp
  · obtain ⟨s0, hs, ho⟩ := txt_slash n false xs hL
    rw [hs]
    unfold suffN
    have hd0 : (s0 ++ [47]).dropLast = s0 := by simp
    simp only [Bool.not_false, Bool.and_true, if_true, hd0]
    cases hr : rooted
    case true =>
      unfold suffR preG
      simp [ho]
    cases s0 with
    | nil => rfl
    | cons x s0 =>
      by_cases hx : x = 47
      · subst hx
        have ho2 : oddB false (92 :: 47 :: s0) = false := ho
        unfold suffR preG
        simp only [List.cons_append, List.head?_cons, Bool.not_false, Bool.true_and, beq_self_eq_true, if_true]
        have hd1 : (92 :: 47 :: (s0 ++ [(47 : UInt8)])).dropLast = 92 :: 47 :: s0 := by
          rw [show (92 :: 47 :: (s0 ++ [(47 : UInt8)])) = (92 :: 47 :: s0) ++ [47] from rfl, List.dropLast_concat]
        have hl1 : (92 :: 47 :: (s0 ++ [(47 : UInt8)])).getLast? = some 47 := by
          rw [show (92 :: 47 :: (s0 ++ [(47 : UInt8)])) = (92 :: 47 :: s0) ++ [47] from rfl, List.getLast?_concat]
        rw [hd1, hl1, ho2]
        rfl
      · have hx' : (some x == some (47 : UInt8)) = false := by simpa using hx
        unfold suffR preG
        simp only [List.cons_append, List.head?_cons, hx', Bool.and_false, Bool.false_eq_true, if_false]
        have hd1 : (x :: (s0 ++ [(47 : UInt8)])).dropLast = x :: s0 := by
          rw [show (x :: (s0 ++ [(47 : UInt8)])) = (x :: s0) ++ [47] from rfl, List.dropLast_concat]
        have hl1 : (x :: (s0 ++ [(47 : UInt8)])).getLast? = some 47 := by
          rw [show (x :: (s0 ++ [(47 : UInt8)])) = (x :: s0) ++ [47] from rfl, List.getLast?_concat]
        rw [hd1, hl1, ho]
        rfl
end Go.Proofs.YtfenmeacimfiaaaGreatDoor
namespace Go.Proofs.YtfenmeacimfiaaaGreatDoor
open Go.RowKit

def usesB (kind k : Int) (u : Bool) : Bool := (kind == k) || !u

set_option maxHeartbeats 1000000 in
theorem uses_any {α : Type} (q : PartOf α) (b : Nat) (k : Int) (u : Bool) (w : World) (hb : PartBox w b q) :
    Calls Tryz.prog 112 #[.int .i64 k, .bool u, .pointer (some ⟨b, 0, none⟩)] w fun e w' => e = .returned (.bool (usesB q.kind k u)) ∧ w = w' := by
  have HR : Hid (usesB q.kind k u = ((q.kind == k) || !u)) := Lib.hid rfl
  generalize usesB q.kind k u = R at *
  obtain ⟨p0, p1, p2, p3, p4, p5⟩ := hb
  generalize q.kind = kind at *
  clear p2 p3 p4 p5
  cases c : (kind == k) <;> cases u
  all_goals
    rw [c] at HR
    go_enter Tryz.func112, Tryz.ntmps112
    go_wp2_with fail
    go_ret
    exact ⟨ret_bool HR.out.symm, rfl⟩

/-- What the reference's two tests of a part's form say together. -/
theorem refForm_eq (kind : Int) (tb sb wb re nul pv : Bool) :
    ((!usesB kind 1 tb || !usesB kind 5 sb || !usesB kind 6 wb) || ((kind == 1 && (!tb || nul || pv)) || (kind == 5 && re) || (kind == 6 && !wb))) = (formBad kind tb sb wb re nul || (kind == 1 && pv)) := by
  unfold formBad usesB
  by_cases k1 : kind = 1
  · subst k1
    cases tb <;> cases sb <;> cases wb <;> cases re <;> cases nul <;> cases pv <;> rfl
  by_cases k5 : kind = 5
  · subst k5
    cases tb <;> cases sb <;> cases wb <;> cases re <;> cases nul <;> cases pv <;> rfl
  by_cases k6 : kind = 6
  · subst k6
    cases tb <;> cases sb <;> cases wb <;> cases re <;> cases nul <;> cases pv <;> rfl
  have e1 : (kind == 1) = false := by simp [k1]
  have e5 : (kind == 5) = false := by simp [k5]
  have e6 : (kind == 6) = false := by simp [k6]
  rw [if_neg k1, if_neg k5, if_neg k6, e1, e5, e6]
  cases tb <;> cases sb <;> cases wb <;> cases re <;> cases nul <;> cases pv <;> rfl

theorem idx_nul (s : ByteArray) : ∃ J : Int, hasNul s = decide (0 ≤ J) ∧ ∀ w : World, Calls Tryz.prog 113 #[.string s, .int .u8 0] w fun e w' => e = .returned (.int .i64 J) ∧ w = w' := by
  refine ⟨Lib.indexByte s.data.toList 0, ?_, fun w => ?_⟩
  · exact Lib.contains_iff_indexByte s.data.toList 0
  · exact (Tryz.strings_IndexByte s 0 w).mono fun e w' h => ⟨h.1, h.2.symm⟩

def rgBadR (a b : Int) : Bool := decide (a < 1) || decide (255 < b) || decide (b < a) || (decide (a ≤ 47) && decide (47 ≤ b))
theorem rgBadR_eq (a b : Int) : rgBadR a b = rgBad a b := by
  unfold rgBadR rgBad
  rw [Bool.eq_iff_iff]
  simp
  omega
end Go.Proofs.YtfenmeacimfiaaaGreatDoor
namespace Go.Proofs.YtfenmeacimfiaaaGreatDoor
open Go.RowKit

set_option maxHeartbeats 8000000 in
set_option maxRecDepth 100000 in
theorem refCheckParts_any : ∀ (n : Nat) (s : Sl (P n)) (w : World), SOk w n s → szL n s.xs ≤ 1048576 →
    Calls Tryz.prog 52 #[.slice s.a s.xs.length s.c] w fun e w' => e = .returned (.int .i64 (rchk n s.xs)) ∧ Below w.heap.size w w' := by
  intro n
  induction n with
  | zero =>
    intro s w hs _
    obtain ⟨a, c, xs⟩ := s
    cases xs with
    | cons x _ => exact nomatch x
    | nil =>
      go_enter Tryz.func52, Tryz.ntmps52
      go_wp2_with fail
      refine wp_loop_rounds 1 ?_
      rw [rounds_succ]
      go_wp2_with fail
      go_ret
      exact ⟨rfl, Below.refl _ _⟩
  | succ n ih =>
    rintro ⟨sa, sc, xs⟩ w hs hz
    have hlen : xs.length ≤ 1048576 := Nat.le_trans (len_le_sz (n + 1) xs) hz
    simp only [] at hz
    have HS := Lib.hid hs
    have HIH := Lib.hid ih
    obtain ⟨E, hE⟩ : ∃ E, rchk (n + 1) xs = E := ⟨_, rfl⟩
    have HE : Hid (E = rchkGo n (fun s => rchk n s.xs) (kdL (n + 1) xs) 0 (xs.drop 0)) := Lib.hid hE.symm
    rw [hE]
    clear hs ih hE
    go_enter Tryz.func52, Tryz.ntmps52
    go_wp2_with fail
    go_loopg [13] xs.length (fun g i wx => ∃ k : Nat, k + g = xs.length ∧ i = .int .i64 k ∧ Below w.heap.size w wx ∧ Hid (E = rchkGo n (fun s => rchk n s.xs) (kdL (n + 1) xs) k (xs.drop k)))
    case atStart => exact ⟨0, by omega, rfl, Below.refl _ _, HE⟩
    case round =>
      clear HE
      obtain ⟨k, hk, rfl, hb, HE⟩ := hrel
      by_cases hlt : k < xs.length
      · obtain ⟨g, rfl⟩ : ∃ g, gk = g + 1 := ⟨gk - 1, by omega⟩
        obtain ⟨p, hx⟩ : ∃ p : P (n + 1), xs[k]? = some p := ⟨_, List.getElem?_eq_getElem hlt⟩
        obtain ⟨ba, off, ha, hba, r0, r1, r2, r3, r4⟩ := partRow (p := pt n p) ((HS.out.under hb).1) hx
        have HPo : Hid (POk w (n + 1) p) := Lib.hid (HS.out.2 p (List.mem_of_getElem? hx))
        rw [rchkGo_step hx] at HE
        have hsp : sz (n + 1) p ≤ 1048576 := Nat.le_trans (le_sum (List.mem_map.2 ⟨p, List.mem_of_getElem? hx, rfl⟩)) hz
        have hszp : sz (n + 1) p = 1 + (pt n p).text.size + (pt n p).rg.xs.length + ((pt n p).ways.xs.map (fun s => 1 + szL n s.xs)).sum := rfl
        have hrl : (pt n p).rg.xs.length ≤ 1048576 := by omega
        have hws : ((pt n p).ways.xs.map (fun s => 1 + szL n s.xs)).sum ≤ 1048576 := by omega
        have hwl : (pt n p).ways.xs.length ≤ 1048576 := by
          have := sum_mono (xs := (pt n p).ways.xs) (f := fun _ => 1) (g := fun s => 1 + szL n s.xs) (fun s _ => by omega)
          rw [sum_ones1] at this
          omega
        obtain ⟨S, hS⟩ : ∃ S, refStep n (fun s => rchk n s.xs) (kdL (n + 1) xs) k p = S := ⟨_, rfl⟩
        rw [hS] at HE
        have hks : isTxt (kdL (n + 1) xs) k = ((pt n p).kind == 1) := by
          rw [isTxt_nat]
          unfold kdL
          rw [List.getElem?_map, hx]
          rfl
        have HSd : Hid (S = _) := Lib.hid hS.symm
        have HRet : Hid (S ≠ 0 → E = S) := Lib.hid (fun h => by rw [HE.out, if_neg h])
        have HGo : Hid (S = 0 → E = rchkGo n (fun s => rchk n s.xs) (kdL (n + 1) xs) (k + 1) (xs.drop (k + 1))) := Lib.hid (fun h => by rw [HE.out, if_pos h])
        unfold refStep at HSd
        rw [hks] at HSd
        unfold partBad at HSd
        have HPo2 : Hid (SlHolds w 2 rgCells (pt n p).rg ∧ SlHolds w 1 (fun s : Sl (P n) => [s.val]) (pt n p).ways ∧ ∀ s ∈ (pt n p).ways.xs, SOk w n s) := Lib.hid ⟨HPo.out.2.1, HPo.out.2.2.2.1, HPo.out.2.2.2.2⟩
        clear HPo hS HE hx hsp hszp hks
        generalize pt n p = q at *
        have HBx := Lib.hid (partBox_new wr q 212)
        have hbx : Below wr.heap.size wr (wr.alloc (.cells #[.int .i64 q.kind, .string q.text, .bool q.neg, .slice q.rg.a q.rg.xs.length q.rg.c, .slice q.ways.a q.ways.xs.length q.ways.c] 212)) := bAlloc (Below.refl _ _) _
        simp only [] at ha
        subst ha
        go_upto_region 4 with fail
        generalize wr.alloc _ = w3 at *
        clear r0 r1 r2 r3 r4
        have hb3 := bTrans hb hbx
        obtain ⟨p0, p1, p2, p3, p4, p5⟩ := HBx.out
        by_cases k1 : q.kind < 1
        · have HS5 : Hid (S = 5) := Lib.hid (by rw [HSd.out, if_pos (.inl k1)])
          clear HSd
          go_wp2_with fail
          go_ret
          exact ⟨ret_int (by rw [HRet.out (by rw [HS5.out]; decide), HS5.out]), hb3⟩
        by_cases k2 : 6 < q.kind
        · have HS5 : Hid (S = 5) := Lib.hid (by rw [HSd.out, if_pos (.inr k2)])
          clear HSd
          go_wp2_with fail
          go_ret
          exact ⟨ret_int (by rw [HRet.out (by rw [HS5.out]; decide), HS5.out]), hb3⟩
        replace HSd := Lib.hid (HSd.out.trans (if_neg (by omega)))
        have HPv : Hid (∃ pv : Bool, isTxt (kdL (n + 1) xs) ((k : Int) - 1) = pv) := Lib.hid ⟨_, rfl⟩
        have HU := Lib.hid (fun k u => uses_any q wr.heap.size k u w3 HBx.out)
        obtain ⟨kind, text, neg, ⟨ra, rc, rxs⟩, ⟨wa, wc, wxs⟩⟩ := q
        simp only [] at *
        obtain ⟨J, hJ, hJC⟩ := idx_nul text
        have HJC := Lib.hid hJC
        rw [hJ] at HSd
        obtain ⟨pv, hpv⟩ := HPv.out
        rw [hpv] at HSd
        have HPV := Lib.hid hpv
        clear hJ hJC HPv hpv
        obtain ⟨X7, hX7⟩ : ∃ X7, (!usesB kind 1 (!text.toList.isEmpty) || !usesB kind 5 (neg || decide (0 < rxs.length)) || !usesB kind 6 (decide (0 < wxs.length))) = X7 := ⟨_, rfl⟩
        obtain ⟨X9, hX9⟩ : ∃ X9, ((kind == 1 && (!(!text.toList.isEmpty) || decide (0 ≤ J) || pv)) || (kind == 5 && decide (rxs.length = 0)) || (kind == 6 && !decide (0 < wxs.length))) = X9 := ⟨_, rfl⟩
        have HS2 : Hid (S = if X7 || X9 then 6 else if rgErr rxs ≠ 0 then rgErr rxs else firstErr (wxs.map (fun s => rchk n s.xs))) := Lib.hid (by
          rw [← hX7, ← hX9, refForm_eq, HSd.out]
          cases formBad kind (!text.toList.isEmpty) (neg || decide (0 < rxs.length)) (decide (0 < wxs.length)) (decide (rxs.length = 0)) (decide (0 ≤ J))
          · rw [Bool.false_or]
            rfl
          · rfl)
        have HX7 := Lib.hid hX7
        have HX9 := Lib.hid hX9
        clear HSd hX7 hX9
        go_upto_region 7 with fail
        go_cut [54] (fun s54 wx => s54 = .bool X7 ∧ w3 = wx)
        case first =>
          as_aux_lemma =>
            cases neg
            case' true =>
              have HX8 : Hid ((!usesB kind 1 (!text.toList.isEmpty) || !usesB kind 5 true || !usesB kind 6 (decide (0 < wxs.length))) = X7) := HX7
              obtain ⟨sb, hsb⟩ : ∃ sb : Bool, true = sb := ⟨_, rfl⟩
            case' false =>
              have HX8 : Hid ((!usesB kind 1 (!text.toList.isEmpty) || !usesB kind 5 (decide (0 < rxs.length)) || !usesB kind 6 (decide (0 < wxs.length))) = X7) := Lib.hid (by rw [← HX7.out, Bool.false_or])
            case true =>
              clear hsb
              cases u1 : usesB kind 1 (!text.toList.isEmpty)
              · go_wp2_with ((with_reducible refine (HU.out _ _).mono ?_); rintro e w5 ⟨rfl, rfl⟩)
                go_meet
                exact ⟨by rw [← HX8.out, u1]; rfl, rfl⟩
              cases u2 : usesB kind 5 true
              · go_wp2_with ((with_reducible refine (HU.out _ _).mono ?_); rintro e w5 ⟨rfl, rfl⟩)
                go_meet
                exact ⟨by rw [← HX8.out, u1, u2]; rfl, rfl⟩
              cases u3 : usesB kind 6 (decide (0 < wxs.length))
              all_goals
                go_wp2_with ((with_reducible refine (HU.out _ _).mono ?_); rintro e w5 ⟨rfl, rfl⟩)
                go_meet
                exact ⟨by rw [← HX8.out, u1, u2, u3]; rfl, rfl⟩
            case false =>
              cases u1 : usesB kind 1 (!text.toList.isEmpty)
              · go_wp2_with ((with_reducible refine (HU.out _ _).mono ?_); rintro e w5 ⟨rfl, rfl⟩)
                go_meet
                exact ⟨by rw [← HX8.out, u1]; rfl, rfl⟩
              cases u2 : usesB kind 5 (decide (0 < rxs.length))
              · go_wp2_with ((with_reducible refine (HU.out _ _).mono ?_); rintro e w5 ⟨rfl, rfl⟩)
                go_meet
                exact ⟨by rw [← HX8.out, u1, u2]; rfl, rfl⟩
              cases u3 : usesB kind 6 (decide (0 < wxs.length))
              all_goals
                go_wp2_with ((with_reducible refine (HU.out _ _).mono ?_); rintro e w5 ⟨rfl, rfl⟩)
                go_meet
                exact ⟨by rw [← HX8.out, u1, u2, u3]; rfl, rfl⟩
        case rest =>
          obtain ⟨rfl, rfl⟩ := hcut
          clear HX7 HU
          as_aux_lemma =>
            cases X7
            case true =>
              have HS5 : Hid (S = 6) := Lib.hid (by rw [HS2.out]; rfl)
              go_wp2_with fail
              go_ret
              exact ⟨ret_int (by rw [HRet.out (by rw [HS5.out]; decide), HS5.out]), hb3⟩
            go_upto_region 9 with fail
            go_cut [103] (fun s103 wx => s103 = .bool X9 ∧ w3 = wx)
            case first =>
              as_aux_lemma =>
                by_cases k1 : kind = 1
                · subst k1
                  cases ht : text.toList.isEmpty
                  · by_cases hJ0 : 0 ≤ J
                    · go_wp2_with (go_at_call 113; refine (HJC.out _).mono ?_; rintro e w5 ⟨rfl, rfl⟩)
                      go_meet
                      exact ⟨by rw [← HX9.out, ht, decide_eq_true hJ0]; rfl, rfl⟩
                    · have HX2 : Hid (X9 = pv) := Lib.hid (by
                        rw [← HX9.out, ht, decide_eq_false hJ0]
                        cases pv <;> rfl)
                      clear HX9
                      by_cases k0 : k = 0
                      · subst k0
                        have HX3 : Hid (X9 = false) := Lib.hid (by rw [HX2.out, ← HPV.out]; rfl)
                        clear HX2
                        go_wp2_with (go_at_call 113; refine (HJC.out _).mono ?_; rintro e w5 ⟨rfl, rfl⟩)
                        go_meet
                        exact ⟨by rw [HX3.out] <;> rw [decide_eq_false (by omega)], rfl⟩
                      · obtain ⟨k', hk'⟩ : ∃ k', k = k' + 1 := ⟨k - 1, by omega⟩
                        obtain ⟨r, hr⟩ : ∃ r : P (n + 1), xs[k']? = some r := ⟨_, List.getElem?_eq_getElem (by omega)⟩
                        obtain ⟨ba', off', ha', hba', r0, r1, r2, r3, r4⟩ := partRow (p := pt n r) ((HS.out.under hb3).1) hr
                        have hki : (k : Int) - 1 = (k' : Int) := by omega
                        have hk0 : 0 < k := by omega
                        have hk'l : k' < xs.length := by omega
                        have HX3 : Hid (X9 = ((pt n r).kind == 1)) := Lib.hid (by
                          rw [HX2.out, ← HPV.out, hki, isTxt_nat]
                          unfold kdL
                          rw [List.getElem?_map, hr]
                          rfl)
                        generalize pt n r = q2 at *
                        cases ha'
                        clear HX2 hr hk' k0 r1 r2 r3 r4
                        cases c2 : (q2.kind == 1)
                        all_goals
                          go_wp2_with (go_at_call 113; refine (HJC.out _).mono ?_; rintro e w5 ⟨rfl, rfl⟩)
                          go_meet
                          exact ⟨by rw [HX3.out, c2] <;> rw [decide_eq_false (by omega)], rfl⟩
                  · go_wp2_with fail
                    go_meet
                    exact ⟨by rw [← HX9.out, ht]; rfl, rfl⟩
                have q1 : (kind == 1) = false := by simp [k1]
                by_cases k5 : kind = 5
                · subst k5
                  clear q1 k1
                  by_cases hr0 : rxs.length = 0
                  · have e5 : ((rxs.length : Int) == 0) = true := by simp [hr0]
                    have HX3 : Hid (X9 = true) := Lib.hid (by rw [← HX9.out, decide_eq_true hr0]; rfl)
                    clear hr0 HX9
                    go_wp2_with fail
                    go_meet
                    exact ⟨by rw [HX3.out], rfl⟩
                  · have e5 : ((rxs.length : Int) == 0) = false := by simpa using hr0
                    have HX3 : Hid (X9 = false) := Lib.hid (by rw [← HX9.out, decide_eq_false hr0]; rfl)
                    clear hr0 HX9
                    go_wp2_with fail
                    go_meet
                    exact ⟨by rw [HX3.out], rfl⟩
                have q5 : (kind == 5) = false := by simp [k5]
                by_cases k6 : kind = 6
                · subst k6
                  clear q1 k1 q5 k5
                  by_cases hw0 : 0 < wxs.length
                  · have e5 : ((wxs.length : Int) == 0) = false := by
                      have : wxs.length ≠ 0 := by omega
                      simpa using this
                    have HX3 : Hid (X9 = false) := Lib.hid (by rw [← HX9.out, decide_eq_true hw0]; rfl)
                    clear hw0 HX9
                    go_wp2_with fail
                    go_meet
                    exact ⟨by rw [HX3.out], rfl⟩
                  · have e5 : ((wxs.length : Int) == 0) = true := by
                      have : wxs.length = 0 := by omega
                      simp [this]
                    have HX3 : Hid (X9 = true) := Lib.hid (by rw [← HX9.out, decide_eq_false hw0]; rfl)
                    clear hw0 HX9
                    go_wp2_with fail
                    go_meet
                    exact ⟨by rw [HX3.out], rfl⟩
                have q6 : (kind == 6) = false := by simp [k6]
                have HX3 : Hid (X9 = false) := Lib.hid (by rw [← HX9.out, q1, q5, q6]; rfl)
                clear k1 k5 k6 HX9
                go_wp2_with fail
                go_meet
                exact ⟨by rw [HX3.out], rfl⟩
            case rest =>
              obtain ⟨rfl, rfl⟩ := hcut
              clear HX9 HJC HPV
              cases X9
              case true =>
                have HS5 : Hid (S = 6) := Lib.hid (by rw [HS2.out]; rfl)
                go_wp2_with fail
                go_ret
                exact ⟨ret_int (by rw [HRet.out (by rw [HS5.out]; decide), HS5.out]), hb3⟩
              replace HS2 : Hid (S = if rgErr rxs ≠ 0 then rgErr rxs else firstErr (wxs.map (fun s => rchk n s.xs))) := HS2
              obtain ⟨R, hR⟩ : ∃ R, rgErr rxs = R := ⟨_, rfl⟩
              rw [hR] at HS2
              have HR := Lib.hid hR
              clear hR
              obtain ⟨wo, rfl⟩ : ∃ wo : World, wo = wr := ⟨_, rfl⟩
              go_wp2_with fail
              clear p0 p1 p2 p3 p4 p5
              go_loopg [107] rxs.length (fun g i wx => ∃ j : Nat, j + g = rxs.length ∧ i = .int .i64 j ∧ Below w3.heap.size w3 wx ∧ Hid (R = rgGo (if j = 0 then none else (rxs[j - 1]?.map (·.2))) (rxs.drop j)) ∧ Hid (∀ i (r : Int × Int), i < j → rxs[i]? = some r → 1 ≤ r.2 ∧ r.2 ≤ 255))
              case atStart => exact ⟨0, by omega, rfl, Below.refl _ _, Lib.hid HR.out.symm, Lib.hid (fun i _ hi => absurd hi (by omega))⟩
              case round =>
                clear HR
                as_aux_lemma =>
                  obtain ⟨j, hj, rfl, hbj, HG, HA⟩ := hrel
                  by_cases hlt2 : j < rxs.length
                  · obtain ⟨g2, rfl⟩ : ∃ g2, gk = g2 + 1 := ⟨gk - 1, by omega⟩
                    obtain ⟨⟨x, y⟩, hx⟩ : ∃ r : Int × Int, rxs[j]? = some r := ⟨_, List.getElem?_eq_getElem hlt2⟩
                    obtain ⟨ba, off, ha, hba, r0, r1⟩ := pairRow (HPo2.out.1.under (bTrans hb3 hbj)) hx
                    have hdr : rxs.drop j = (x, y) :: rxs.drop (j + 1) := by rw [List.drop_eq_getElem_cons hlt2, (List.getElem?_eq_some_iff.1 hx).2]
                    rw [hdr, rgGo_cons] at HG
                    simp only [] at HG ha r0 r1
                    have HX := Lib.hid hx
                    have HBq := Lib.hid (pairBox_new wr x y 164)
                    have hbx : Below wr.heap.size wr (wr.alloc (.cells #[.int .i64 x, .int .i64 y] 164)) := bAlloc (Below.refl _ _) _
                    clear hx hdr
                    cases ha
                    go_upto_region 14 with fail
                    generalize wr.alloc _ = w5 at *
                    have hb5 := bTrans hbj hbx
                    obtain ⟨t0, t1, t2⟩ := HBq.out
                    clear r0 r1
                    cases hbad : rgBad x y
                    case true =>
                      have HB7 : Hid (R = 7) := Lib.hid (by rw [HG.out, hbad]; rfl)
                      as_aux_lemma =>
                        have HS7 : Hid (S = 7) := Lib.hid (by rw [HS2.out, HB7.out]; rfl)
                        have hor : x < 1 ∨ (¬ x < 1 ∧ 255 < y) ∨ (¬ x < 1 ∧ ¬ 255 < y ∧ y < x) ∨ (¬ x < 1 ∧ ¬ 255 < y ∧ ¬ y < x ∧ x ≤ 47 ∧ 47 ≤ y) := by
                          rw [← rgBadR_eq] at hbad
                          unfold rgBadR at hbad
                          simp only [Bool.or_eq_true, Bool.and_eq_true, decide_eq_true_eq] at hbad
                          omega
                        clear HG hbad
                        rcases hor with d1 | ⟨d1, d2⟩ | ⟨d1, d2, d3⟩ | ⟨d1, d2, d3, d4, d5⟩
                        all_goals
                          go_wp2_with fail
                          go_ret
                          exact ⟨ret_int (by rw [HRet.out (by rw [HS7.out]; decide), HS7.out]), bTrans hb3 hb5⟩
                    obtain ⟨x1, x2, y1, y2, xy⟩ := rgBad_no hbad
                    have hor : (x ≤ 47 ∧ ¬ 47 ≤ y) ∨ ¬ x ≤ 47 := by
                      unfold rgBad at hbad
                      simp only [Bool.or_eq_false_iff, Bool.and_eq_false_iff, decide_eq_false_iff_not] at hbad
                      omega
                    rw [hbad] at HG
                    have d1 : ¬ x < 1 := by omega
                    have d4 : ¬ 255 < y := by omega
                    have d5 : ¬ y < x := by omega
                    clear hbad
                    have HA2 : Hid (∀ i (r : Int × Int), i < j + 1 → rxs[i]? = some r → 1 ≤ r.2 ∧ r.2 ≤ 255) := Lib.hid (fun i r hi hr => by
                      by_cases e : i = j
                      · subst e
                        rw [HX.out] at hr
                        cases hr
                        exact ⟨y1, y2⟩
                      · exact HA.out i r (by omega) hr)
                    have HNx : Hid ((if j + 1 = 0 then none else (rxs[j + 1 - 1]?.map (·.2))) = some y) := Lib.hid (by rw [if_neg (by omega), Nat.add_sub_cancel, HX.out]; rfl)
                    by_cases k0 : j = 0
                    · subst k0
                      have HG2 : Hid (R = rgGo (some y) (rxs.drop (0 + 1))) := Lib.hid (by rw [HG.out]; rfl)
                      as_aux_lemma =>
                        clear HG
                        rcases hor with ⟨d6, d7⟩ | d6
                        all_goals
                          go_wp2_with fail
                          go_quiet (fail)
                          go_wp2_with fail
                          go_roundg g2
                          case measure => omega
                          case rel => exact ⟨1, by omega, by go_num, bDrewN hb5 _, by rw [show (if (1 : Nat) = 0 then none else (rxs[1 - 1]?.map (·.2))) = some y from HNx.out]; exact HG2, HA2⟩
                    · obtain ⟨j', hj'⟩ : ∃ j', j = j' + 1 := ⟨j - 1, by omega⟩
                      obtain ⟨⟨px, py⟩, hpx⟩ : ∃ r : Int × Int, rxs[j']? = some r := ⟨_, List.getElem?_eq_getElem (by omega)⟩
                      obtain ⟨z1, z2⟩ := HA.out j' _ (by omega) hpx
                      have HPr := Lib.hid (pairRow (HPo2.out.1.under (bTrans hb3 hb5)) hpx)
                      have HG3 : Hid (R = if decide (x ≤ py + 1) then 10 else rgGo (some y) (rxs.drop (j + 1))) := Lib.hid (by
                        rw [HG.out, if_neg (by decide), if_neg k0, show j - 1 = j' by omega, hpx]
                        rfl)
                      simp only [] at z1 z2
                      have hki : IntKind.i64.wrap ((j : Int) - 1) = (j' : Int) := by rw [IntWalk.i64_in _ (by omega)]; omega
                      have hpw : IntKind.i64.wrap (py + 1) = py + 1 := IntWalk.i64_in _ (by omega)
                      have hkl : (j' : Int) < rxs.length := by omega
                      have hk0 : decide (0 < j) = true := decide_eq_true (by omega)
                      have hk1 : decide ((0 : Int) < (j : Int)) = true := decide_eq_true (by omega)
                      have hk2 : (0 : Int) ≤ (j' : Int) := by omega
                      clear HG hpx hj' k0
                      by_cases hnear : x ≤ py + 1
                      · rw [decide_eq_true hnear] at HG3
                        as_aux_lemma =>
                          have HS7 : Hid (S = 10) := Lib.hid (by rw [HS2.out, HG3.out]; rfl)
                          have hnd : decide (x ≤ py + 1) = true := decide_eq_true hnear
                          clear hnear
                          rcases hor with ⟨d6, d7⟩ | d6
                          all_goals
                            go_upto_region 16 with fail
                            obtain ⟨ba', off', ha', hba', r0, r1⟩ := HPr.out
                            simp only [] at ha' r0 r1
                            cases ha'
                            have p4 := (HBx.out.under hb5).2.2.2.2.1
                            simp only [] at p4
                            go_quiet (fail)
                            go_wp2_with fail
                            go_ret
                            exact ⟨ret_int (by rw [HRet.out (by rw [HS7.out]; decide), HS7.out]), bTrans hb3 (bDrewN hb5 _)⟩
                      · rw [decide_eq_false hnear] at HG3
                        as_aux_lemma =>
                          have hnd : decide (x ≤ py + 1) = false := decide_eq_false hnear
                          clear hnear
                          rcases hor with ⟨d6, d7⟩ | d6
                          all_goals
                            go_upto_region 16 with fail
                            obtain ⟨ba', off', ha', hba', r0, r1⟩ := HPr.out
                            simp only [] at ha' r0 r1
                            cases ha'
                            have p4 := (HBx.out.under hb5).2.2.2.2.1
                            simp only [] at p4
                            go_quiet (fail)
                            go_wp2_with fail
                            go_roundg g2
                            case measure => omega
                            case rel => exact ⟨j + 1, by omega, by go_num, bDrewN hb5 _, by rw [HNx.out]; exact HG3, HA2⟩
                  · have HR0 : Hid (R = 0) := Lib.hid (by rw [HG.out, List.drop_of_length_le (by omega)]; cases (if j = 0 then none else (rxs[j - 1]?.map (·.2))) <;> rfl)
                    have HS3 : Hid (S = firstErr ((wxs.map (fun s => rchk n s.xs)).drop 0)) := Lib.hid (by rw [HS2.out, HR0.out]; rfl)
                    have p5 := (HBx.out.under hbj).2.2.2.2.2
                    simp only [] at p5
                    obtain ⟨w6, rfl⟩ : ∃ w6 : World, w6 = wr := ⟨_, rfl⟩
                    have hb6 := bTrans hb3 hbj
                    clear HG HA HS2 HR0 hbj
                    go_wp2_with fail
                    go_loopg [156] wxs.length (fun g i wx => ∃ m : Nat, m + g = wxs.length ∧ i = .int .i64 m ∧ Below w6.heap.size w6 wx ∧ Hid (S = firstErr ((wxs.map (fun s => rchk n s.xs)).drop m)))
                    case atStart => exact ⟨0, by omega, rfl, Below.refl _ _, HS3⟩
                    case round =>
                      clear HS3
                      as_aux_lemma =>
                        obtain ⟨m, hm, rfl, hbm, HSj⟩ := hrel
                        by_cases hlt3 : m < wxs.length
                        · obtain ⟨g3, rfl⟩ : ∃ g3, gk = g3 + 1 := ⟨gk - 1, by omega⟩
                          obtain ⟨t, hx⟩ : ∃ t : Sl (P n), wxs[m]? = some t := ⟨_, List.getElem?_eq_getElem hlt3⟩
                          have hbw6 := bTrans hb6 hbm
                          obtain ⟨bw, ow, ha, hbw, r0⟩ := wayRow (HPo2.out.2.1.under hbw6) hx
                          have hmem := List.mem_of_getElem? hx
                          have hszt : 1 + szL n t.xs ≤ 1048576 := Nat.le_trans (le_sum (List.mem_map.2 ⟨t, hmem, rfl⟩ : (1 + szL n t.xs) ∈ wxs.map (fun s => 1 + szL n s.xs))) hws
                          have HCall := Lib.hid (HIH.out t wr ((HPo2.out.2.2 t hmem).under hbw6) (by omega))
                          rw [firstErr_step (e := rchk n t.xs) (by rw [List.getElem?_map, hx]; rfl)] at HSj
                          generalize rchk n t.xs = C at *
                          simp only [] at ha
                          cases ha
                          clear hx hmem
                          by_cases hC : C = 0
                          · subst hC
                            replace HSj := Lib.hid (HSj.out.trans (if_pos rfl))
                            go_wp2_with (go_at_call 52; refine HCall.out.mono ?_; rintro e w7 ⟨rfl, hb7⟩)
                            go_roundg g3
                            case measure => omega
                            case rel => exact ⟨m + 1, by omega, by go_num, bTrans hbm hb7, HSj⟩
                          · have HS5 : Hid (S = C) := Lib.hid (by rw [HSj.out, if_neg hC])
                            have hC' : (C != 0) = true := by simp [hC]
                            have HCn := Lib.hid hC
                            clear hC HSj
                            go_wp2_with (go_at_call 52; refine HCall.out.mono ?_; rintro e w7 ⟨rfl, hb7⟩)
                            go_ret
                            exact ⟨ret_int (by rw [HRet.out (by rw [HS5.out]; exact HCn.out), HS5.out]), bTrans hbw6 hb7⟩
                        · have HS0 : Hid (S = 0) := Lib.hid (by rw [HSj.out, List.drop_of_length_le (by simp; omega)]; rfl)
                          go_wp2_with fail
                          go_roundg g
                          case measure => omega
                          case rel => exact ⟨k + 1, by omega, by go_num, bTrans hb6 hbm, Lib.hid (HGo.out HS0.out)⟩
      · have HE2 : Hid (E = 0) := Lib.hid (by rw [HE.out, List.drop_of_length_le (by omega)]; rfl)
        go_wp2_with fail
        go_ret
        exact ⟨ret_int HE2.out.symm, hb⟩
end Go.Proofs.YtfenmeacimfiaaaGreatDoor
namespace Go.Proofs.YtfenmeacimfiaaaGreatDoor
open Go.RowKit

/-- The place of the first element that a predicate takes. -/
def idxOf {α : Type} (p : α → Bool) (xs : List α) : Int := match xs.findIdx? p with
  | some i => i
  | none => -1
theorem idxOf_pos {α : Type} (p : α → Bool) (xs : List α) : decide (0 ≤ idxOf p xs) = xs.any p := by
  unfold idxOf
  cases h : xs.findIdx? p with
  | none =>
    rw [List.findIdx?_eq_none_iff] at h
    have : xs.any p = false := by rw [List.any_eq_false]; intro x hx; simp [h x hx]
    simp [this]
  | some i =>
    obtain ⟨hi, hp, _⟩ := List.findIdx?_eq_some_iff_getElem.1 h
    have : xs.any p = true := List.any_eq_true.2 ⟨xs[i], List.getElem_mem hi, hp⟩
    simp [this]
theorem idxOf_at {α : Type} {p : α → Bool} {xs : List α} {k : Nat} {x : α} (hx : xs[k]? = some x) (hp : p x = true) (hn : ∀ (j : Nat) y, j < k → xs[j]? = some y → p y = false) : idxOf p xs = k := by
  have hlt := (List.getElem?_eq_some_iff.1 hx).1
  have : xs.findIdx? p = some k := by
    rw [List.findIdx?_eq_some_iff_getElem]
    refine ⟨hlt, ?_, fun j hj => ?_⟩
    · rw [(List.getElem?_eq_some_iff.1 hx).2]
      exact hp
    · have := hn j (xs[j]'(by omega)) hj (List.getElem?_eq_getElem _)
      simp [this]
  simp [idxOf, this]
theorem idxOf_none {α : Type} {p : α → Bool} {xs : List α} (hn : ∀ (j : Nat) y, j < xs.length → xs[j]? = some y → p y = false) : idxOf p xs = -1 := by
  have : xs.findIdx? p = none := by
    rw [List.findIdx?_eq_none_iff]
    intro x hx
    obtain ⟨j, hj⟩ := List.getElem?_of_mem hx
    exact hn j x (List.getElem?_eq_some_iff.1 hj).1 hj
  simp [idxOf, this]

/-- A function value that answers a predicate, in every later world. -/
def PredOf {α : Type} (val : α → Value) (F : FuncId) (p : α → Bool) (xs : List α) (w : World) : Prop :=
  ∀ x ∈ xs, ∀ W, Below w.heap.size w W → Calls Tryz.prog F #[val x] W fun e w' => e = .returned (.bool (p x)) ∧ Below W.heap.size W w'

set_option maxHeartbeats 1000000 in
theorem indexFunc_ways {α : Type} (F : FuncId) (p : Sl α → Bool) (s : Sl (Sl α)) (w : World) (hen : ∀ args w, (callFunc F args).run Tryz.prog w = .ok (.enter F args) w)
    (hl : s.xs.length ≤ 9223372036854775807) (hH : SlHolds w 1 (fun s : Sl α => [s.val]) s) (hp : PredOf Sl.val F p s.xs w) :
    Calls Tryz.prog 167 #[.slice s.a s.xs.length s.c, .func (.func F) #[] #[]] w fun e w' => e = .returned (.int .i64 (idxOf p s.xs)) ∧ Below w.heap.size w w' := by
  have HH := Lib.hid hH
  have HP := Lib.hid hp
  clear hH hp
  obtain ⟨a, c, xs⟩ := s
  simp only [] at *
  go_enter Tryz.func167, Tryz.ntmps167
  go_wp2_with fail
  go_loopg [8] xs.length (fun g i wx => ∃ k : Nat, k + g = xs.length ∧ i = .int .i64 k ∧ Below w.heap.size w wx ∧ Hid (∀ (j : Nat) x, j < k → xs[j]? = some x → p x = false))
  case atStart => exact ⟨0, by omega, rfl, Below.refl _ _, Lib.hid (fun j x h => absurd h (Nat.not_lt_zero _))⟩
  case round =>
    obtain ⟨k, hk, rfl, hb, HN⟩ := hrel
    by_cases hlt : k < xs.length
    · obtain ⟨g, rfl⟩ : ∃ g, gk = g + 1 := ⟨gk - 1, by omega⟩
      obtain ⟨x, hx⟩ : ∃ x, xs[k]? = some x := ⟨_, List.getElem?_eq_getElem hlt⟩
      obtain ⟨ba, off, ha, hba, hca⟩ := wayRow (HH.out.under hb) hx
      have Hx := Lib.hid hx
      clear hx
      subst ha
      have HC := Lib.hid (HP.out x (List.mem_of_getElem? Hx.out) wr hb)
      cases hpx : p x
      · rw [hpx] at HC
        go_wp2_with fail
        refine HC.out.mono ?_
        rintro e w' ⟨rfl, hb2⟩
        go_wp2_with fail
        go_roundg g
        case measure => omega
        case rel =>
          refine ⟨k + 1, by omega, by go_num, bTrans hb hb2, Lib.hid (fun j y hj hy => ?_)⟩
          rcases Nat.lt_or_ge j k with h | h
          · exact HN.out j y h hy
          · obtain rfl : j = k := by omega
            rw [Hx.out] at hy
            cases hy
            exact hpx
      · rw [hpx] at HC
        have HI := Lib.hid (idxOf_at Hx.out hpx HN.out)
        clear hpx
        go_wp2_with fail
        refine HC.out.mono ?_
        rintro e w' ⟨rfl, hb2⟩
        go_wp2_with fail
        go_ret
        exact ⟨ret_int HI.out.symm, bTrans hb hb2⟩
    · obtain rfl : k = xs.length := by omega
      have HI := Lib.hid (idxOf_none HN.out)
      go_wp2_with fail
      go_ret
      exact ⟨ret_int HI.out.symm, hb⟩

set_option maxHeartbeats 1000000 in
theorem containsFunc_ways {α : Type} (F : FuncId) (p : Sl α → Bool) (s : Sl (Sl α)) (w : World) (hen : ∀ args w, (callFunc F args).run Tryz.prog w = .ok (.enter F args) w)
    (hl : s.xs.length ≤ 9223372036854775807) (hH : SlHolds w 1 (fun s : Sl α => [s.val]) s) (hp : PredOf Sl.val F p s.xs w) :
    Calls Tryz.prog 115 #[.slice s.a s.xs.length s.c, .func (.func F) #[] #[]] w fun e w' => e = .returned (.bool (s.xs.any p)) ∧ Below w.heap.size w w' := by
  have H := Lib.hid (indexFunc_ways F p s w hen hl hH hp)
  have HI := Lib.hid (idxOf_pos p s.xs)
  clear hH hp
  generalize s.xs.any p = R at *
  generalize idxOf p s.xs = J at *
  obtain ⟨a, c, xs⟩ := s
  simp only [] at *
  go_enter Tryz.func115, Tryz.ntmps115
  go_wp2_with (go_at_call 167; refine H.out.mono ?_; rintro e w' ⟨rfl, hb⟩)
  go_ret
  exact ⟨ret_bool HI.out, hb⟩

set_option maxHeartbeats 1000000 in
theorem refStar_any {α : Type} (q : PartOf α) (w : World) : Calls Tryz.prog 114 #[partVal q] w fun e w' => e = .returned (.bool (isStar q.kind)) ∧ Below w.heap.size w w' := by
  have HK : Hid (isStar q.kind = (q.kind == 3 || q.kind == 4)) := Lib.hid rfl
  generalize isStar q.kind = R at *
  cases c3 : (q.kind == 3)
  · cases c4 : (q.kind == 4)
    all_goals
      have HR : Hid (R = _) := Lib.hid (HK.out.trans (by rw [c3, c4]))
      clear HK
      go_enter Tryz.func114, Tryz.ntmps114
      go_wp2_with fail
      go_ret
      exact ⟨ret_bool HR.out.symm, bAlloc (Below.refl _ _) _⟩
  · have HR : Hid (R = true) := Lib.hid (HK.out.trans (by rw [c3]; rfl))
    clear HK
    go_enter Tryz.func114, Tryz.ntmps114
    go_wp2_with fail
    go_ret
    exact ⟨ret_bool HR.out.symm, bAlloc (Below.refl _ _) _⟩
theorem enters_together : ∀ args w, (callFunc 53 args).run Tryz.prog w = .ok (.enter 53 args) w := enters_of Tryz.func53 (by kernel_rfl) rfl

set_option maxHeartbeats 4000000 in
set_option maxRecDepth 100000 in
theorem starsTogether_any : ∀ (n : Nat) (s : Sl (P n)) (w : World), SOk w n s → szL n s.xs ≤ 1048576 →
    Calls Tryz.prog 53 #[.slice s.a s.xs.length s.c] w fun e w' => e = .returned (.bool (meet n s.xs)) ∧ Below w.heap.size w w' := by
  intro n
  induction n with
  | zero =>
    intro s w hs _
    obtain ⟨a, c, xs⟩ := s
    cases xs with
    | cons x _ => exact nomatch x
    | nil =>
      go_enter Tryz.func53, Tryz.ntmps53
      go_wp2_with fail
      refine wp_loop_rounds 1 ?_
      rw [rounds_succ]
      go_wp2_with fail
      go_ret
      exact ⟨rfl, Below.refl _ _⟩
  | succ n ih =>
    rintro ⟨sa, sc, xs⟩ w hs hz
    have hlen : xs.length ≤ 1048576 := Nat.le_trans (len_le_sz (n + 1) xs) hz
    simp only [] at hz
    have HS := Lib.hid hs
    have HIH := Lib.hid ih
    obtain ⟨E, hE⟩ : ∃ E, meet (n + 1) xs = E := ⟨_, rfl⟩
    have HE : Hid (E = meetGo n (fun s => meet n s.xs) (kdL (n + 1) xs) 0 (xs.drop 0)) := Lib.hid hE.symm
    rw [hE]
    clear hs ih hE
    go_enter Tryz.func53, Tryz.ntmps53
    go_wp2_with fail
    go_loopg [8] xs.length (fun g i wx => ∃ k : Nat, k + g = xs.length ∧ i = .int .i64 k ∧ Below w.heap.size w wx ∧ Hid (E = meetGo n (fun s => meet n s.xs) (kdL (n + 1) xs) k (xs.drop k)))
    case atStart => exact ⟨0, by omega, rfl, Below.refl _ _, HE⟩
    case round =>
      clear HE
      obtain ⟨k, hk, rfl, hb, HE⟩ := hrel
      by_cases hlt : k < xs.length
      · obtain ⟨g, rfl⟩ : ∃ g, gk = g + 1 := ⟨gk - 1, by omega⟩
        obtain ⟨p, hx⟩ : ∃ p : P (n + 1), xs[k]? = some p := ⟨_, List.getElem?_eq_getElem hlt⟩
        obtain ⟨ba, off, ha, hba, r0, r1, r2, r3, r4⟩ := partRow (p := pt n p) ((HS.out.under hb).1) hx
        have HPo : Hid (POk w (n + 1) p) := Lib.hid (HS.out.2 p (List.mem_of_getElem? hx))
        rw [meetGo_step hx] at HE
        have hsp : sz (n + 1) p ≤ 1048576 := Nat.le_trans (le_sum (List.mem_map.2 ⟨p, List.mem_of_getElem? hx, rfl⟩)) hz
        have hszp : sz (n + 1) p = 1 + (pt n p).text.size + (pt n p).rg.xs.length + ((pt n p).ways.xs.map (fun s => 1 + szL n s.xs)).sum := rfl
        have hws : ((pt n p).ways.xs.map (fun s => 1 + szL n s.xs)).sum ≤ 1048576 := by omega
        have hwl : (pt n p).ways.xs.length ≤ 1048576 := by
          have := sum_mono (xs := (pt n p).ways.xs) (f := fun _ => 1) (g := fun s => 1 + szL n s.xs) (fun s _ => by omega)
          rw [sum_ones1] at this
          omega
        have HPo2 : Hid (SlHolds w 1 (fun s : Sl (P n) => [s.val]) (pt n p).ways ∧ ∀ s ∈ (pt n p).ways.xs, SOk w n s) := Lib.hid ⟨HPo.out.2.2.2.1, HPo.out.2.2.2.2⟩
        clear HPo hx hsp hszp
        generalize pt n p = q at *
        have HCF := Lib.hid (fun W (hbW : Below w.heap.size w W) => containsFunc_ways 53 (fun s => meet n s.xs) q.ways W enters_together (by omega) (HPo2.out.1.under hbW) (fun t ht W2 hb2 => HIH.out t W2 ((HPo2.out.2 t ht).under (bTrans hbW hb2)) (by
          have := le_sum (List.mem_map.2 ⟨t, ht, rfl⟩ : (1 + szL n t.xs) ∈ q.ways.xs.map (fun s => 1 + szL n s.xs))
          omega)))
        have HBx := Lib.hid (partBox_new wr q 212)
        have hbx : Below wr.heap.size wr (wr.alloc (.cells #[.int .i64 q.kind, .string q.text, .bool q.neg, .slice q.rg.a q.rg.xs.length q.rg.c, .slice q.ways.a q.ways.xs.length q.ways.c] 212)) := bAlloc (Below.refl _ _) _
        simp only [] at ha
        subst ha
        generalize q.ways.xs.any (fun s => meet n s.xs) = AN at *
        go_upto_region 5 with fail
        generalize wr.alloc _ = w3 at *
        clear r0 r1 r2 r3 r4
        have hb3 := bTrans hb hbx
        obtain ⟨p0, p1, p2, p3, p4, p5⟩ := HBx.out
        generalize hM : (decide (0 < k) && isStar q.kind && starAt (kdL (n + 1) xs) ((k : Int) - 1)) = tm at *
        go_cut [33] (fun s33 wx => s33 = .bool (tm || AN) ∧ Below w3.heap.size w3 wx)
        case first =>
          have HSt := Lib.hid (fun W => refStar_any q W)
          have HM := Lib.hid hM
          clear hM HE
          by_cases k0 : k = 0
          · subst k0
            go_wp2_with fail
            refine (HCF.out _ hb3).mono ?_
            rintro e w4 ⟨rfl, hb4⟩
            go_wp2_with fail
            go_meet
            exact ⟨by rw [← HM.out]; rfl, hb4⟩
          · obtain ⟨k', hk'⟩ : ∃ k', k = k' + 1 := ⟨k - 1, by omega⟩
            obtain ⟨r, hr⟩ : ∃ r : P (n + 1), xs[k']? = some r := ⟨_, List.getElem?_eq_getElem (by omega)⟩
            have HRow := Lib.hid (fun W (hbW : Below w3.heap.size w3 W) => partRow (p := pt n r) ((HS.out.under (bTrans hb3 hbW)).1) hr)
            have hki : (k : Int) - 1 = (k' : Int) := by omega
            have hk0 : 0 < k := by omega
            have hk'l : k' < xs.length := by omega
            have HMM : Hid (tm = (isStar q.kind && isStar (pt n r).kind)) := Lib.hid (by
              rw [← HM.out, hki, decide_eq_true hk0, Bool.true_and]
              congr 1
              unfold starAt kdL
              rw [Int.toNat_natCast, List.getElem?_map, hr]
              simp
              rfl)
            generalize pt n r = q2 at *
            have HSt2 := Lib.hid (fun W => refStar_any q2 W)
            generalize isStar q.kind = a1 at *
            generalize isStar q2.kind = a2 at *
            clear HM hr hk' k0
            cases a1
            · go_wp2_with fail
              refine (HSt.out _).mono ?_
              rintro e w4 ⟨rfl, hb4⟩
              obtain ⟨p0, p1, p2, p3, p4, p5⟩ := HBx.out.under hb4
              go_wp2_with fail
              refine (HCF.out _ (bTrans hb3 hb4)).mono ?_
              rintro e w5 ⟨rfl, hb5⟩
              go_wp2_with fail
              go_meet
              exact ⟨by rw [HMM.out]; rfl, bTrans hb4 hb5⟩
            · go_wp2_with fail
              refine (HSt.out _).mono ?_
              rintro e w4 ⟨rfl, hb4⟩
              obtain ⟨ba', off', ha', hba', r0, r1, r2, r3, r4⟩ := HRow.out w4 hb4
              cases ha'
              cases a2
              · go_wp2_with fail
                refine (HSt2.out _).mono ?_
                rintro e w5 ⟨rfl, hb5⟩
                obtain ⟨p0, p1, p2, p3, p4, p5⟩ := HBx.out.under (bTrans hb4 hb5)
                go_wp2_with fail
                refine (HCF.out _ (bTrans hb3 (bTrans hb4 hb5))).mono ?_
                rintro e w6 ⟨rfl, hb6⟩
                go_wp2_with fail
                go_meet
                exact ⟨by rw [HMM.out]; rfl, bTrans (bTrans hb4 hb5) hb6⟩
              · go_wp2_with fail
                refine (HSt2.out _).mono ?_
                rintro e w5 ⟨rfl, hb5⟩
                go_wp2_with fail
                go_meet
                exact ⟨by rw [HMM.out]; rfl, bTrans hb4 hb5⟩
        case rest =>
          obtain ⟨rfl, hb4⟩ := hcut
          cases hX : (tm || AN)
          case true =>
            have HT : Hid (E = true) := Lib.hid (by rw [HE.out, hX]; rfl)
            go_wp2_with fail
            go_ret
            exact ⟨ret_bool HT.out.symm, bTrans hb3 hb4⟩
          have HG : Hid (E = meetGo n (fun s => meet n s.xs) (kdL (n + 1) xs) (k + 1) (xs.drop (k + 1))) := Lib.hid (by rw [HE.out, hX]; rfl)
          clear hX
          go_wp2_with fail
          go_roundg g
          case measure => omega
          case rel => exact ⟨k + 1, by omega, by go_num, bTrans hb3 hb4, HG⟩
      · have HG2 : Hid (E = false) := Lib.hid (by rw [HE.out, List.drop_of_length_le (by omega)]; rfl)
        go_wp2_with fail
        go_ret
        exact ⟨ret_bool HG2.out.symm, hb⟩
end Go.Proofs.YtfenmeacimfiaaaGreatDoor
