/-
  The texts Vk2, Vk3, in one.
-/
import Derived.Test.YtmafnjapailliaaGreatDoorMeD
import Derived.Test.YtmafnjapailliaaGreatDoorStoreFeat
import Derived.Test.YtmafnjapailliaaGreatDoorSmlG
import Derived.Test.YtmafnjapailliaaGreatDoorPaths
namespace Go.Proofs.YtmafnjapailliaaGreatDoor
open Go.RowKit Wh.Vk

/-- The law's ground: the features, the path, the pair. -/
structure LG (w0 : World) (T : Tabs) (f : Wh.Feat) (A : ByteArray) : Prop where
  gr : Gr w0 T
  a : PathA A
  ok : Wh.featErr f = 0
  has : hasB f 1024 = true
/-- The store and the pair in a world; P: blocks that the store leaves alone. -/
structure LS (w0 : World) (f : Wh.Feat) (A : ByteArray) (P : Nat → Prop) (mb pb db cb : Nat) (M : MB) (s : MSt) (v : V ByteArray) (n : Nat) (W : World) : Prop where
  bel : Below w0.heap.size w0 W
  pair : BoxIs W pb #[ptr mb, ptr db, ptr cb] 37
  mb : M.b = mb
  mem : MemAt W w0.heap.size A M s
  nb : M.nb < W.heap.size
  pp : P pb
  apart : ∀ i, P i → i < W.heap.size ∧ ¬ MF M i
  li : LI f s v n
def LV (w0 : World) (f : Wh.Feat) (A : ByteArray) (P : Nat → Prop) (mb pb db cb : Nat) (v : V ByteArray) (n : Nat) (W : World) : Prop := ∃ M s, LS w0 f A P mb pb db cb M s v n W
section
variable {w0 : World} {T : Tabs} {f : Wh.Feat} {A : ByteArray} {P P' : Nat → Prop} {mb pb db cb : Nat} {M M' : MB} {s s' : MSt} {v v' : V ByteArray} {n n' : Nat} {W W' : World}
theorem LS.next (h : LS w0 f A P mb pb db cb M s v n W) (hg : Goes M M' W W') (hm : MemAt W' w0.heap.size A M' s') (hl : LI f s' v' n') : LS w0 f A P mb pb db cb M' s' v' n' W' ∧ Kp (fun i => ¬ P i) W W' := by
  refine ⟨⟨hg.below h.mem h.bel, h.pair.kp hg.kp (h.apart _ h.pp).2, hg.b.trans h.mb, hm, hg.nb h.nb, h.pp, fun i hi => ⟨Nat.lt_of_lt_of_le (h.apart i hi).1 hg.kp.size, fun e => ?_⟩, hl⟩, hg.kp.mono (fun i hi hp => (h.apart i hp).2 hi)⟩
  rcases hg.mf i e with h1 | h1
  · exact (h.apart i hi).2 h1
  · exact absurd (h.apart i hi).1 (Nat.not_lt.2 h1)
theorem LS.under (h : LS w0 f A P mb pb db cb M s v n W) (hb : Below W.heap.size W W') : LS w0 f A P mb pb db cb M s v n W' :=
  (h.next (Goes.of hb) (h.mem.below hb) h.li).1
theorem LV.under (h : LV w0 f A P mb pb db cb v n W) (hb : Below W.heap.size W W') : LV w0 f A P mb pb db cb v n W' := by
  obtain ⟨M, s, h⟩ := h
  exact ⟨M, s, h.under hb⟩
theorem LV.add (h : LV w0 f A P mb pb db cb v n W) (hb : Below W.heap.size W W') (hp : P' pb) (hP : ∀ i, P' i → P i ∨ (W.heap.size ≤ i ∧ i < W'.heap.size)) : LV w0 f A P' mb pb db cb v n W' := by
  obtain ⟨M, s, h⟩ := h
  have h' := h.under hb
  refine ⟨M, s, h'.bel, h'.pair, h'.mb, h'.mem, h'.nb, hp, fun i hi => ?_, h'.li⟩
  rcases hP i hi with h1 | ⟨h1, h2⟩
  · exact h'.apart i h1
  · exact ⟨h2, fun e => absurd (h.mem.mfs h.nb e) (Nat.not_lt.2 h1)⟩
theorem LV.less (h : LV w0 f A P mb pb db cb v n W) (hp : P' pb) (hP : ∀ i, P' i → P i) : LV w0 f A P' mb pb db cb v n W := h.add (Below.refl _ _) hp (fun i hi => .inl (hP i hi))
theorem LV.bel (h : LV w0 f A P mb pb db cb v n W) : Below w0.heap.size w0 W := by
  obtain ⟨M, s, h⟩ := h
  exact h.bel
theorem LV.cell (h : LV w0 f A P mb pb db cb v n W) : W.cell? ⟨pb, 0, none⟩ = some (ptr mb) := by
  obtain ⟨M, s, h⟩ := h
  exact h.pair.cell (j := 0) rfl
theorem LV.lt (h : LV w0 f A P mb pb db cb v n W) {i : Nat} (hi : P i) : i < W.heap.size := by
  obtain ⟨M, s, h⟩ := h
  exact (h.apart i hi).1

def PutW (w0 : World) (f : Wh.Feat) (A : ByteArray) (P : Nat → Prop) (mb pb db cb : Nat) (v : V ByteArray) (n : Nat) (w : World) (e : Ending) (w' : World) : Prop :=
  ∃ (k t : Int) (sa : Option Addr) (m sc : Nat) (id : ByteArray), e = .returned (.tuple #[.agg (infoArr A false k t (.slice sa m sc) id), .int .i64 0]) ∧ LV w0 f A P mb pb db cb v n w' ∧ Kp (fun i => ¬ P i) w w'
theorem putV_any (hg : LG w0 T f A) (h : LV w0 f A P mb pb db cb v n W) (hn : n ≤ 1000000) (h1 : v.num ≤ 1000000) (h2 : v.vers.length ≤ 20) (d : ByteArray) (hd : (d.size : Int) ≤ f.maxSize) (t : Int) (ht : 0 ≤ t ∧ t ≤ 1000000) :
    Calls Tryz.prog 12 #[ptr mb, .string A, .string d, .int .i64 t, .slice none 0 0] W (PutW w0 f A P mb pb db cb (v.put d) (n + 1) W) := by
  obtain ⟨M, s, h⟩ := h
  have hf := h.li.f
  have hp := feat_prec hg.ok
  have := putC_any w0 T A M s d t W hg.gr h.bel h.mem h.nb hg.a (h.li.ok hn hg.has h1 h2) (by rw [hf]; exact fok_of hg.ok hg.a) (by rw [hf]; exact hd) (by omega) (by rw [h.li.now]; omega)
  rw [h.mb] at this
  refine this.mono ?_
  rintro e w' ⟨M', sa, m, sc, rfl, _, _, hm, hgo⟩
  obtain ⟨q1, q2⟩ := h.next hgo hm (h.li.put d ht hp.1)
  exact ⟨_, _, _, _, _, _, rfl, ⟨M', _, q1⟩, q2⟩
def ZeroV (w0 : World) (f : Wh.Feat) (A : ByteArray) (P : Nat → Prop) (mb pb db cb : Nat) (v : V ByteArray) (n : Nat) (w : World) (e : Ending) (w' : World) : Prop :=
  e = .returned (.int .i64 0) ∧ LV w0 f A P mb pb db cb v n w' ∧ Kp (fun i => ¬ P i) w w'
theorem remV_any (hg : LG w0 T f A) (h : LV w0 f A P mb pb db cb v n W) (hn : n ≤ 1000000) (h1 : v.num ≤ 1000000) (h2 : v.vers.length ≤ 20) {d : ByteArray} (hd : v.cur = some d) :
    Calls Tryz.prog 11 #[ptr mb, .string A] W (ZeroV w0 f A P mb pb db cb v.remove n W) := by
  obtain ⟨M, s, h⟩ := h
  have hc := h.li.cur
  rw [hd] at hc
  cases hs : s.cur with
  | none => rw [hs] at hc; cases hc
  | some c =>
    have := remove_any w0 T A M s c W hg.gr h.bel h.mem hs hg.a (h.li.ok hn hg.has h1 h2)
    rw [h.mb] at this
    refine this.mono ?_
    rintro e w' ⟨rfl, M', hm, hgo⟩
    obtain ⟨q1, q2⟩ := h.next hgo hm (h.li.rem hs)
    exact ⟨rfl, ⟨M', _, q1⟩, q2⟩
def VersV (w0 : World) (f : Wh.Feat) (A : ByteArray) (P : Nat → Prop) (mb pb db cb : Nat) (v : V ByteArray) (n : Nat) (w : World) (e : Ending) (w' : World) : Prop :=
  ∃ ra m cap, ∃ vs : List Ver, e = .returned (.tuple #[.slice ra m cap, .int .i64 0]) ∧ v.vers.length = m ∧ vs.map (fun x => (x.num, x.data)) = v.vers ∧ RowG 49 6 w' w.heap.size ra cap (vs.map (verCells A 1000)) ∧ LV w0 f A P mb pb db cb v n w' ∧ Below w.heap.size w w'
theorem versV_any (hg : LG w0 T f A) (h : LV w0 f A P mb pb db cb v n W) (h2 : v.vers.length ≤ 20) :
    Calls Tryz.prog 13 #[ptr mb, .string A] W (VersV w0 f A P mb pb db cb v n W) := by
  obtain ⟨M, s, h⟩ := h
  have hl : v.vers.length = s.vers.length := by rw [h.li.vers, List.length_map]
  have := versions_any w0.heap.size A M s W (hg.gr.env.below h.bel (Nat.le_refl _)) h.mem hg.a (by rw [h.li.f]; exact hg.has) (by omega)
  rw [h.mb] at this
  refine this.mono ?_
  rintro e w' ⟨ra, m, cap, rfl, hm, hr, hb⟩
  rw [h.li.now] at hr
  exact ⟨ra, m, cap, s.vers, rfl, hl.trans hm, h.li.vers.symm, hr, ⟨M, s, h.under hb⟩, hb⟩
theorem restV_any (hg : LG w0 T f A) (h : LV w0 f A P mb pb db cb v n W) (hn : n ≤ 1000000) {H : List ByteArray} {c : ByteArray} (hi : Is v H c) (hH : H.length < 20) {i num : Nat} {x : ByteArray} (hx : H[i]? = some x) (hnum : num = i + 1) (hd : (x.size : Int) ≤ f.maxSize) :
    Calls Tryz.prog 14 #[ptr mb, .string A, .int .i64 num] W (ZeroV w0 f A P mb pb db cb (v.put x) (n + 1) W) := by
  obtain ⟨M, s, h⟩ := h
  obtain ⟨b1, b2, b3⟩ := Is.bounds hi
  have hf := h.li.f
  have hp := feat_prec hg.ok
  have hil := (List.getElem?_eq_some_iff.1 hx).1
  have hz : H.length - 20 = 0 := by omega
  have hall : ∀ (k : Nat) y, s.vers[k]? = some y → y.num = k + 1 ∧ H[k]? = some y.data := by
    intro k y hy
    have hk : (s.vers.map (fun x => (x.num, x.data)))[k]? = some (y.num, y.data) := by rw [List.getElem?_map, hy]; rfl
    rw [← h.li.vers] at hk
    obtain ⟨z, hz1, hz2⟩ := hi.number (List.getElem?_eq_some_iff.1 hk).1
    rw [hz, Nat.zero_add] at hz1 hz2
    rw [hk] at hz2
    injection hz2 with hz2
    injection hz2 with q1 q2
    exact ⟨q1, by rw [hz1, q2]⟩
  have hls : s.vers.length = H.length := by
    have := congrArg List.length h.li.vers
    rw [List.length_map] at this
    omega
  obtain ⟨y, hy⟩ : ∃ y, s.vers[i]? = some y := ⟨_, List.getElem?_eq_getElem (by omega)⟩
  obtain ⟨q1, q2⟩ := hall i y hy
  obtain rfl : x = y.data := by rw [hx] at q2; exact Option.some.inj q2
  have htv := h.li.tv y (List.mem_of_getElem? hy)
  have := restore_any w0 T A M s W i y hy (fun k z hk hz => by have := (hall k z hz).1; omega) hg.gr h.bel h.mem h.nb hg.a (h.li.ok hn hg.has (by omega) b2) (by rw [hf]; exact hg.has) (by rw [hf]; exact fok_of hg.ok hg.a) (by rw [hf]; exact hd) (by omega) (by rw [h.li.now]; omega)
  rw [h.mb, q1, ← hnum] at this
  refine this.mono ?_
  rintro e w' ⟨rfl, M', hm, hgo⟩
  obtain ⟨q1, q2⟩ := h.next hgo hm (h.li.put y.data htv hp.1)
  exact ⟨rfl, ⟨M', _, q1⟩, q2⟩
def WholeV (w0 : World) (f : Wh.Feat) (A : ByteArray) (P : Nat → Prop) (mb pb db cb : Nat) (v : V ByteArray) (n : Nat) (d : ByteArray) (w : World) (e : Ending) (w' : World) : Prop :=
  e = .returned (.tuple #[.string d, .int .i64 0]) ∧ LV w0 f A P mb pb db cb v n w' ∧ Kp (fun i => ¬ P i) w w'
theorem wholeV_any (hg : LG w0 T f A) (h : LV w0 f A P mb pb db cb v n W) {d : ByteArray} (hd : v.cur = some d) (hz : d.size ≤ 1048576) :
    Calls Tryz.prog 15 #[.iface 34 (ptr mb), .string A] W (WholeV w0 f A P mb pb db cb v n d W) := by
  obtain ⟨M, s, h⟩ := h
  have hc := h.li.cur
  rw [hd] at hc
  cases hs : s.cur with
  | none => rw [hs] at hc; cases hc
  | some c =>
    rw [hs] at hc
    injection hc with hc
    subst hc
    have := whole_any w0 T A M s c W hz hg.gr h.bel h.mem h.nb hs hg.a
    rw [h.mb] at this
    refine this.mono ?_
    rintro e w' ⟨rfl, hm, hgo⟩
    obtain ⟨q1, q2⟩ := h.next hgo hm h.li
    exact ⟨rfl, ⟨M, s, q1⟩, q2⟩
end
/-- The history behind the law's first loop. -/
theorem at_number {l : List ByteArray} {n : Nat} {v : V ByteArray} (h : At l n v) (hn : n ≤ l.length) {vs : List Ver} (hvs : vs.map (fun x => (x.num, x.data)) = v.vers) {i : Nat} {y : Ver} (hy : vs[i]? = some y) : y.num = n - 1 - 20 + i + 1 ∧ l[n - 1 - 20 + i]? = some y.data ∧ n - 1 - 20 + i < n - 1 := by
  have hk : (vs.map (fun x => (x.num, x.data)))[i]? = some (y.num, y.data) := by rw [List.getElem?_map, hy]; rfl
  rw [hvs] at hk
  rcases h with ⟨rfl, rfl⟩ | ⟨h0, c, hc, hi⟩
  · simp at hk
  · have hlt := (List.getElem?_eq_some_iff.1 hk).1
    have hl : (l.take (n - 1)).length = n - 1 := by rw [List.length_take]; omega
    obtain ⟨z, hz1, hz2⟩ := hi.number hlt
    obtain ⟨b1, b2, b3⟩ := Is.bounds hi
    rw [hl] at hz1 hz2 b3
    rw [hk] at hz2
    injection hz2 with hz2
    injection hz2 with q1 q2
    have hj : n - 1 - 20 + i < n - 1 := by omega
    refine ⟨q1, ?_, hj⟩
    rw [List.getElem?_take_of_lt hj] at hz1
    rw [hz1, q2]
/-- The history in the law's last loop. -/
def Tail (l : List ByteArray) (n i : Nat) (v : V ByteArray) : Prop := n - 1 < 20 → 0 < n → ∃ H c, Is v H c ∧ H.length = n - 1 + i ∧ H.length < 20 ∧ ∀ (k : Nat) x, (l.take (n - 1))[k]? = some x → H[k]? = some x
theorem At.tail {l : List ByteArray} {n : Nat} {v : V ByteArray} (h : At l n v) (hn : n ≤ l.length) : Tail l n 0 v := by
  intro h1 h2
  rcases h with ⟨rfl, _⟩ | ⟨_, c, hc, hi⟩
  · exact absurd h2 (Nat.lt_irrefl _)
  · have hl : (l.take (n - 1)).length = n - 1 := by rw [List.length_take]; omega
    exact ⟨_, c, hi, by omega, by omega, fun _ _ h => h⟩
theorem is_put {v : V ByteArray} {H : List ByteArray} {c : ByteArray} (h : Is v H c) (x : ByteArray) : Is (v.put x) (H ++ [c]) x := h.round 0 x
theorem put_bounds {v : V ByteArray} {H : List ByteArray} {c : ByteArray} (h : Is v H c) (x : ByteArray) (hH : H.length < 20) : (v.put x).vers.length = H.length + 1 := by
  have := (Is.bounds (is_put h x)).2.2
  rw [List.length_append, List.length_singleton] at this
  omega
theorem tail_next {l : List ByteArray} {n i : Nat} {v : V ByteArray} {H : List ByteArray} {c : ByteArray} (hi : Is v H c) (hH : H.length = n - 1 + i) (hp : ∀ (k : Nat) x, (l.take (n - 1))[k]? = some x → H[k]? = some x) (x : ByteArray) (hlt : H.length + 1 < 20) : Tail l n (i + 1) (v.put x) := by
  intro _ _
  refine ⟨_, _, is_put hi x, by rw [List.length_append, List.length_singleton]; omega, by rw [List.length_append, List.length_singleton]; omega, fun k y hy => ?_⟩
  have := hp k y hy
  rw [List.getElem?_append_left (List.getElem?_eq_some_iff.1 this).1]
  exact this

/-- The features are right. -/
def BackB (r : Bool) (w : World) (e : Ending) (w' : World) : Prop := e = .returned (.bool r) ∧ Below w.heap.size w w'
set_option maxHeartbeats 2000000 in
set_option maxRecDepth 100000 in
theorem rightV_any (f : Wh.Feat) (hf : FeatOk f) (w : World) :
    Calls Tryz.prog 6 #[featVal f] w (BackB (Wh.featErr f == 0) w) := by
  unfold BackB
  have HC := Lib.hid (fun a W ha hH => refCheckFeat_any f hf a 0 5 W ha hH)
  have HB := Lib.hid (featBox_new w f)
  have hb1 : Below w.heap.size w (w.alloc (featObj f)) := bAlloc (Below.refl _ _) _
  clear hf
  generalize Wh.featErr f = E at *
  unfold featVal featObj at *
  go_enter Tryz.func6, Tryz.ntmps6
  go_upto_region 1 with fail
  generalize w.alloc _ = w1 at *
  obtain ⟨k0, k1, k2, k3, k4, k5, k6, k7, k8, k9⟩ := HB.out
  have HX := Lib.hid (fun W (hb : Below w1.heap.size w1 W) => HB.out.under hb)
  go_region_held3 (fun w' => w'.cell? ⟨w.heap.size, 0, none⟩ = some (.int .i64 f.has) ∧ w'.cell? ⟨w.heap.size, 1, none⟩ = some (.int .i64 f.sums) ∧ w'.cell? ⟨w.heap.size, 2, none⟩ = some (.int .i64 f.prec) ∧ w'.cell? ⟨w.heap.size, 3, none⟩ = some (.int .i64 f.maxName) ∧ w'.cell? ⟨w.heap.size, 4, none⟩ = some (.int .i64 f.maxPath) ∧ w'.cell? ⟨w.heap.size, 5, none⟩ = some (.int .i64 f.maxSize) ∧ w'.cell? ⟨w.heap.size, 6, none⟩ = some (.int .i64 f.page) ∧ w'.cell? ⟨w.heap.size, 7, none⟩ = some (.int .i64 f.partSize) ∧ w'.cell? ⟨w.heap.size, 8, none⟩ = some (.string f.forbid))
    (first | go_keep | exact (HX.out _ hbA).2 | exact (HX.out _ (bTrans hbA hb3)).2)
    (first | (go_at_call 22; refine (sumKinds_back _).mono ?_; rintro e w2 ⟨ka, rfl, hka, hkc, hb2⟩; have HKC := Lib.hid hkc; clear hkc; have hbA : Below w1.heap.size w1 w2 := ⟨hb2.os, hb2.tape, hb2.output, hb2.size, hb2.block⟩) | (go_at_call 21; refine (HC.out _ _ hka HKC.out).mono ?_; rintro e w3 ⟨rfl, hb3⟩))
  all_goals go_wp2_with fail
  all_goals go_ret
  all_goals exact ⟨rfl, bTrans (bTrans hb1 hbA) hb3⟩

theorem enters_vk1 : ∀ args w, (callFunc 8 args).run Tryz.prog w = .ok (.enter 8 args) w := enters_of Tryz.func8 (by kernel_rfl) rfl
set_option maxHeartbeats 1000000 in
theorem tooLarge_any (m : Int) (x : ByteArray) (b : Nat) (w : World) (_hx : x.size < 9223372036854775808) (hb : w.cell? ⟨b, 5, none⟩ = some (.int .i64 m)) :
    Calls Tryz.prog 8 #[.string x, .pointer (some ⟨b, 0, none⟩)] w fun e w' => e = .returned (.bool (decide (m < x.size))) ∧ Below w.heap.size w w' := by
  go_enter Tryz.func8, Tryz.ntmps8
  go_wp2_with fail
  go_ret
  exact ⟨rfl, Below.refl _ _⟩
end Go.Proofs.YtmafnjapailliaaGreatDoor
namespace Go.Proofs.YtmafnjapailliaaGreatDoor
open Go.RowKit Wh.Vk

def ClockPost (w : World) (e : Ending) (w' : World) : Prop := ∃ cb, e = .returned (.pointer (some ⟨cb, 0, none⟩)) ∧ BoxIs w' cb #[.int .i64 1000] 72 ∧ w.heap.size ≤ cb ∧ Below w.heap.size w w'
theorem newClockP_any (w : World) : Calls Tryz.prog 10 #[.int .i64 1000] w (ClockPost w) := by
  refine (newClockT_any w).mono ?_
  rintro e w' ⟨rfl, h1, h2⟩
  exact ⟨_, rfl, h1, Nat.le_refl _, h2⟩
def P0 (p i : Nat) : Prop := i = p
def P1 (p : Nat) (ra : Option Addr) (i : Nat) : Prop := i = p ∨ rb ra i
def P2 (p : Nat) (ra : Option Addr) (x i : Nat) : Prop := P1 p ra i ∨ i = x
abbrev pathA : ByteArray := ⟨#[97]⟩
theorem pathA_is : PathA pathA := ⟨rfl⟩
theorem at_zero (l : List ByteArray) : At l 0 ⟨none, [], 0⟩ := .inl ⟨rfl, rfl⟩
theorem At.removed {l : List ByteArray} {n : Nat} {v : V ByteArray} (h : At l n v) (h0 : 0 < n) (hn : n ≤ l.length) : v.remove.num ≤ n ∧ v.remove.vers.length ≤ 20 := by
  rcases h with ⟨rfl, _⟩ | ⟨_, c, hc, hi⟩
  · exact absurd h0 (Nat.lt_irrefl _)
  · have hk := hi.keep
    have hl : (l.take (n - 1) ++ [c]).length = n := by rw [List.length_append, List.length_take, List.length_singleton]; omega
    rw [hl] at hk
    have h2 : v.remove.vers = _ := hk.2
    refine ⟨Nat.le_of_eq hk.1, ?_⟩
    rw [h2, List.length_drop, allV_len, hl]
    omega
theorem not_mod {k : Nat} (h : ¬ k % 5 = 4) : ¬ ((k : Int).tmod 5 = 4) := by rw [Int.tmod_eq_emod_of_nonneg (by omega)]; omega
theorem is_mod {k : Nat} (h : k % 5 = 4) : (k : Int).tmod 5 = 4 := by rw [Int.tmod_eq_emod_of_nonneg (by omega)]; omega

set_option maxHeartbeats 8000000 in
set_option maxRecDepth 100000 in
theorem versionsKept_walk (T : Tabs) (f : Wh.Feat) (hf : FeatOk f) (a : Option Addr) (c : Nat) (l : List ByteArray) (w : World) (hG : Gr w T) (hl : l.length ≤ 9223372036854775807) (hlc : l.length ≤ c) (hz : ∀ x ∈ l, x.size < 9223372036854775808) (hH : Holds w a (l.map Value.string)) :
    Calls Tryz.prog 3 #[featVal f, .slice a l.length c] w fun e w' => e = .returned (.bool true) ∧ Below w.heap.size w w' := by
  have hb1 : Below w.heap.size w (w.alloc (featObj f)) := bAlloc (Below.refl _ _) _
  have HB := Lib.hid (featBox_new w f)
  have HL := Lib.hid (fun W (hb : Below w.heap.size w W) => landed_any W (hG.env.under hb))
  have HR := Lib.hid (fun W => rightV_any f hf W)
  unfold BackB at HR
  obtain ⟨fb, hfb⟩ : ∃ fb, w.heap.size = fb := ⟨_, rfl⟩
  have HHh := Lib.hid (fun W (hb : Below w.heap.size w W) => hH.under hb)
  have HCF := Lib.hid (fun W (hb : Below w.heap.size w W) (h5 : ∀ W', Below W.heap.size W W' → W'.cell? ⟨fb, 5, none⟩ = some (.int .i64 f.maxSize)) =>
    containsFunc_cap 8 (.pointer (some ⟨fb, 0, none⟩)) (fun x => decide (f.maxSize < x.size)) a c l W enters_vk1 hl (hH.under hb) (fun x hx W' hb' => tooLarge_any f.maxSize x fb W' (hz x hx) (h5 W' hb')))
  have hhas : (bits BinOp.and IntKind.i64 f.has 1024 == 0) = !hasB f 1024 := by simp [hasB]
  have HFe : Hid (Wh.featErr f = 0 → ∀ W, Calls Tryz.prog 74 #[featVal f] W fun e w' => e = .returned (.int .i64 0) ∧ Below W.heap.size W w') := Lib.hid (fun h0 W => by have := stCheckFeat_any f hf W; rw [h0] at this; exact this)
  have HCk := Lib.hid newClockP_any
  unfold ClockPost at HCk
  have HNp := Lib.hid (fun (h0 : Wh.featErr f = 0) cb W (hb : w.heap.size ≤ W.heap.size) hc hcl => newPairT_any w.heap.size f pathA cb 1000 W (HFe.out h0) hb hc hcl)
  unfold PairT at HNp
  have HLg : Hid (Wh.featErr f = 0 → hasB f 1024 = true → LG w T f pathA) := Lib.hid (fun h0 h1 => ⟨hG, pathA_is, h0, h1⟩)
  have HAny : Hid (∀ x ∈ l, l.any (fun x => decide (f.maxSize < x.size)) = false → (x.size : Int) ≤ f.maxSize) := Lib.hid (fun x hx h => by
    rw [List.any_eq_false] at h
    have := h x hx
    simpa using this)
  have HFe0 : Hid (∀ E, Wh.featErr f = E → (Wh.featErr f == 0) = (E == 0)) := Lib.hid (fun E h => by rw [h])
  obtain ⟨E, hE0⟩ : ∃ E, Wh.featErr f = E := ⟨_, rfl⟩
  have HE := Lib.hid hE0
  rw [hE0] at HR
  obtain ⟨big, hbig⟩ : ∃ b, l.any (fun x => decide (f.maxSize < x.size)) = b := ⟨_, rfl⟩
  have HBig := Lib.hid hbig
  simp only [hbig] at HCF
  obtain ⟨hv, hhv⟩ : ∃ b, hasB f 1024 = b := ⟨_, rfl⟩
  have HHv := Lib.hid hhv
  rw [hhv] at hhas
  obtain ⟨len, hlen⟩ : ∃ n, l.length = n := ⟨_, rfl⟩
  have HLen := Lib.hid hlen
  rw [hlen] at hl hlc HCF ⊢
  rw [hfb] at HB
  clear hE0 hbig hhv hlen hG hf hH hz HFe HFe0
  unfold featVal featObj at *
  go_enter Tryz.func3, Tryz.ntmps3
  go_upto_region 1 with fail
  clear hfb
  generalize w.alloc _ = w1 at *
  have HX := Lib.hid (fun W (hb : Below w1.heap.size w1 W) => HB.out.under hb)
  clear HB
  go_upto_region 3 with (go_at_call 5; refine (HL.out _ hb1).mono ?_; rintro e w2 ⟨rfl, hS⟩)
  have hb2 := bTrans hb1 hS
  obtain ⟨k0, k1, k2, k3, k4, k5, k6, k7, k8, k9⟩ := HX.out _ hS
  clear HL
  by_cases h0 : E = 0
  case neg =>
    have hq : (E == 0) = false := by simpa using h0
    rw [hq] at HR
    go_wp2_with (go_at_call 6; refine (HR.out _).mono ?_; rintro e w3 ⟨rfl, hb3⟩)
    go_ret
    exact ⟨rfl, bTrans hb2 hb3⟩
  case pos =>
    subst h0
    have hq : ((0 : Int) == 0) = true := rfl
    rw [hq] at HR
    have h5 : ∀ W W', Below w2.heap.size w2 W → Below W.heap.size W W' → W'.cell? ⟨fb, 5, none⟩ = some (.int .i64 f.maxSize) := fun W W' h1 h2 => (HX.out W' (bTrans (bTrans hS h1) h2)).2.2.2.2.2.2.1
    have H5 := Lib.hid h5
    clear h5
    cases hv
    case false =>
      go_wp2_with (go_at_call 6; refine (HR.out _).mono ?_; rintro e w3 ⟨rfl, hb3⟩; clear k0 k1 k2 k3 k4 k5 k6 k7 k8 k9; obtain ⟨k0, k1, k2, k3, k4, k5, k6, k7, k8, k9⟩ := HX.out _ (bTrans hS hb3))
      go_ret
      exact ⟨rfl, bTrans hb2 hb3⟩
    case true =>
      cases big
      case true =>
        go_wp2_with (first | (go_at_call 6; refine (HR.out _).mono ?_; rintro e w3 ⟨rfl, hb3⟩; clear k0 k1 k2 k3 k4 k5 k6 k7 k8 k9; obtain ⟨k0, k1, k2, k3, k4, k5, k6, k7, k8, k9⟩ := HX.out _ (bTrans hS hb3)) | (go_at_call 7; refine (HCF.out _ (bTrans hb2 hb3) (fun W' h => H5.out _ W' hb3 h)).mono ?_; rintro e w4 ⟨rfl, hb4⟩))
        go_ret
        exact ⟨rfl, bTrans hb2 (bTrans hb3 hb4)⟩
      case false =>
        go_upto_region 5 with (first | (go_at_call 6; refine (HR.out _).mono ?_; rintro e w3 ⟨rfl, hb3⟩; clear k0 k1 k2 k3 k4 k5 k6 k7 k8 k9; obtain ⟨k0, k1, k2, k3, k4, k5, k6, k7, k8, k9⟩ := HX.out _ (bTrans hS hb3)) | (go_at_call 7; refine (HCF.out _ (bTrans hb2 hb3) (fun W' h => H5.out _ W' hb3 h)).mono ?_; rintro e w4 ⟨rfl, hb4⟩))
        clear k0 k1 k2 k3 k4 k5 k6 k7 k8 k9 HCF HR H5
        have hb4' : Below w.heap.size w w4 := bTrans hb2 (bTrans hb3 hb4)
        have HB4 := Lib.hid hb4'
        have HX4 : Hid (∀ W, Below w4.heap.size w4 W → FeatBox W fb f) := Lib.hid (fun W h => HX.out W (bTrans (bTrans hS (bTrans hb3 hb4)) h))
        clear hb1 hb2 hb3 hb4 hb4' hS HX
        have hS : Below w4.heap.size w4 w4.drew := below_drewn (Below.refl _ _)
        refine wp_region_seq (Below w4.heap.size w4) [(0, true), (1, false), (2, false), (3, true)] (by as_aux_lemma => kernel_rfl) (by as_aux_lemma => kernel_rfl) (by decide) (by as_aux_lemma => kernel_rfl) hS ?_
        intro OPS HO
        refine seq_take (o := ⟨_, _, _, _, _, _⟩) (v := ?_) (by rw [HO.out]; rfl) (by rfl) ?_ ?_
        rotate_left 1
        · first | ((intro W _; go_simp) <;> with_reducible rfl) | (intro W hW; obtain ⟨k0, k1, k2, k3, k4, k5, k6, k7, k8, k9⟩ := HX4.out _ hW; (go_simp <;> with_reducible rfl))
        try simp only [Act.put, List.setIfInBounds_toArray, List.set_cons_zero, List.set_cons_succ]
        refine seq_do (o := ⟨_, _, _, _, _, _⟩) (by rw [HO.out]; rfl) (by rfl) (fun K hK => ?_)
        go_wp2_with (go_at_call 10; refine (HCk.out _).mono ?_; rintro e w5 ⟨cb, rfl, hcb, hcl, hb5⟩; have hw5 : w4.heap.size ≤ cb := Nat.le_trans hS.size hcl; have HCb := Lib.hid hcb; have HCl := Lib.hid hw5; replace hS := bTrans hS hb5; clear hb5 hcb hcl hw5)
        refine hK.out _ _ hS (fun _ => ?_)
        clear hK K
        try simp only [Act.put, List.setIfInBounds_toArray, List.set_cons_zero, List.set_cons_succ]
        refine seq_do (o := ⟨_, _, _, _, _, _⟩) (by rw [HO.out]; rfl) (by rfl) (fun K hK => ?_)
        go_wp2_with (go_at_call 9; refine (HNp.out HE.out cb _ (bTrans HB4.out hS).size HCb.out (Nat.le_trans HB4.out.size HCl.out)).mono ?_; rintro e w6 ⟨p, db, M, rfl, hpb, hm, hnb, hmf, hb6⟩; replace hS := bTrans hS hb6; have HLv : Hid (LV w f pathA (P0 p) M.b p db cb ⟨none, [], 0⟩ 0 w6) := Lib.hid ⟨M, st0 f 1000, bTrans HB4.out hS, hpb, rfl, hm, Nat.lt_trans hnb hpb.lt, rfl, fun i hi => ⟨by rw [hi]; exact hpb.lt, fun e => absurd (hmf i e) (by rw [hi]; exact Nat.lt_irrefl _)⟩, ⟨rfl, rfl, Nat.le_refl _, rfl, rfl, rfl, fun c hc => (by cases hc), fun x hx => (by cases hx)⟩⟩; clear hb6 hpb hm hnb hmf)
        refine hK.out _ _ hS (fun _ => ?_)
        clear hK K
        try simp only [Act.put, List.setIfInBounds_toArray, List.set_cons_zero, List.set_cons_succ]
        refine seq_take (o := ⟨_, _, _, _, _, _⟩) (v := ?_) (by rw [HO.out]; rfl) (by rfl) ?_ ?_
        rotate_left 1
        · first | ((intro W _; go_simp) <;> with_reducible rfl) | (intro W hW; obtain ⟨k0, k1, k2, k3, k4, k5, k6, k7, k8, k9⟩ := HX4.out _ hW; (go_simp <;> with_reducible rfl))
        try simp only [Act.put, List.setIfInBounds_toArray, List.set_cons_zero, List.set_cons_succ]
        refine seq_done ?_
        have hlv : LV w f pathA (P0 p) M.b p db cb ⟨none, [], 0⟩ 0 w6 := HLv.out
        generalize M.b = mb at *
        have hg := HLg.out HE.out HHv.out
        have HRm := Lib.hid (fun W v n d (h : LV w f pathA (P0 p) mb p db cb v n W) hn h1 h2 (hd : v.cur = some d) => remV_any hg h hn h1 h2 hd)
        have HPt := Lib.hid (fun W v n d (h : LV w f pathA (P0 p) mb p db cb v n W) hn h1 h2 hd t ht => putV_any hg h hn h1 h2 d hd t ht)
        have HVs := Lib.hid (fun P W v n (h : LV w f pathA P mb p db cb v n W) h2 => versV_any hg h h2)
        have HRs := Lib.hid (fun P W v n (h : LV w f pathA P mb p db cb v n W) hn H c (hi : Is v H c) hH i num x (hx : H[i]? = some x) (hq : num = i + 1) hd => restV_any hg h hn hi hH hx hq hd)
        have HWh := Lib.hid (fun P W v n d (h : LV w f pathA P mb p db cb v n W) (hd : v.cur = some d) hz => wholeV_any hg h hd hz)
        unfold ZeroV at HRm HRs
        unfold PutW at HPt
        unfold VersV at HVs
        unfold WholeV at HWh
        have hms : f.maxSize ≤ 1048576 := (feat_prec HE.out).2.2.1
        have HMs := Lib.hid hms
        have HLv6 := Lib.hid hlv
        clear hg hlv HLv HLg hms
        obtain ⟨n, hn⟩ : ∃ n, n = min len 40 := ⟨_, rfl⟩
        have hn1 : n ≤ len := by omega
        have hn2 : n ≤ 40 := by omega
        have hn3 : min (len : Int) 40 = (n : Int) := by omega
        have hn4 : n ≤ c := by omega
        obtain ⟨ll, hll⟩ : ∃ ll, ll = l.take 40 := ⟨_, rfl⟩
        have hlln : ll.length = n := by rw [hll, List.length_take, HLen.out, hn]; omega
        have HLl : Hid (∀ (k : Nat) x, ll[k]? = some x → l[k]? = some x) := Lib.hid (fun k x h => by
          have hk := (List.getElem?_eq_some_iff.1 h).1
          rw [hlln] at hk
          rw [hll, List.getElem?_take_of_lt (by omega)] at h
          exact h)
        have HNl := Lib.hid hlln
        clear hn hll hlln
        go_upto_region 9 with fail
        go_upto_region 10 with fail
        go_loopg [49] n (fun g i wx => ∃ (k : Nat) (v : V ByteArray), k + g = n ∧ i = .int .i64 k ∧ Hid (LV w f pathA (P0 p) mb p db cb v k wx) ∧ Hid (At ll k v))
        case atStart => exact ⟨0, _, by omega, rfl, HLv6, Lib.hid (at_zero ll)⟩
        case round =>
          clear HLv6
          obtain ⟨k, v, hk, rfl, HLv, HAt⟩ := hrel
          by_cases hlt : k < n
          case pos =>
            obtain ⟨g, rfl⟩ : ∃ g, gk = g + 1 := ⟨gk - 1, by omega⟩
            obtain ⟨x, hx⟩ : ∃ x, ll[k]? = some x := ⟨_, List.getElem?_eq_getElem (by rw [HNl.out]; exact hlt)⟩
            have hxl := HLl.out k x hx
            obtain ⟨ba, off, ha, hba, hca⟩ := (HHh.out wr HLv.out.bel).at (k := k) (u := .string x) (by rw [List.getElem?_map, hxl]; rfl)
            subst ha
            have hsz : (x.size : Int) ≤ f.maxSize := HAny.out x (List.mem_of_getElem? hxl) HBig.out
            have hbd := At.bounds HAt.out (by rw [HNl.out]; omega)
            have cp := HLv.out.cell
            have hkn : (k : Int) < (n : Int) := by omega
            have HX := Lib.hid hx
            obtain ⟨b1, b2, b3, b4⟩ := hbd
            have HB3 := Lib.hid b3
            clear hx hxl b3 b4
            by_cases h5 : k % 5 = 4
            case pos =>
              have hm := is_mod h5
              obtain ⟨d, hd⟩ := HB3.out (by omega)
              have HRm1 := Lib.hid (HRm.out wr v k d HLv.out (by omega) (by omega) b2 hd)
              obtain ⟨r1, r2⟩ := At.removed HAt.out (by omega) (by rw [HNl.out]; omega)
              clear hd
              go_upto_region 15 with (go_at_call 11; refine HRm1.out.mono ?_; rintro e w7 ⟨rfl, hlv7, hk7⟩; have HLv7 := Lib.hid hlv7; have HB7 := Lib.hid hlv7.bel; clear hlv7 hk7)
              clear cp
              have cp := HLv7.out.cell
              have HPt1 := Lib.hid (HPt.out w7 v.remove k x HLv7.out (by omega) (by omega) r2 hsz k (by omega))
              go_wp2_with (go_at_call 12; refine HPt1.out.mono ?_; rintro e w8 ⟨sz, tt, sa, sm, sc, id, rfl, hlv8, hk8⟩; have HLv8 := Lib.hid hlv8; clear hlv8 hk8)
              go_roundg g
              case measure => omega
              case rel => exact ⟨k + 1, _, by omega, by go_num, Lib.hid (HLv8.out.under (bAlloc (Below.refl _ _) _)), Lib.hid (by have := HAt.out.next HX.out; unfold V.round at this; rw [if_pos h5] at this; exact this)⟩
            case neg =>
              have hm := not_mod h5
              have HPt1 := Lib.hid (HPt.out wr v k x HLv.out (by omega) (by omega) b2 hsz k (by omega))
              go_wp2_with (go_at_call 12; refine HPt1.out.mono ?_; rintro e w8 ⟨sz, tt, sa, sm, sc, id, rfl, hlv8, hk8⟩; have HLv8 := Lib.hid hlv8; clear hlv8 hk8)
              go_roundg g
              case measure => omega
              case rel => exact ⟨k + 1, _, by omega, by go_num, Lib.hid (HLv8.out.under (bAlloc (Below.refl _ _) _)), Lib.hid (by have := HAt.out.next HX.out; unfold V.round at this; rw [if_neg h5] at this; exact this)⟩
          case neg =>
            have hkn : ¬ ((k : Int) < (n : Int)) := by omega
            go_upto_region 19 with fail
            obtain rfl : k = n := by omega
            obtain ⟨b1, b2, b3, b4⟩ := At.bounds HAt.out (by rw [HNl.out]; omega)
            have HVs1 := Lib.hid (HVs.out (P0 p) wr v k HLv.out b2)
            have cp := HLv.out.cell
            clear b3 HRm HPt
            go_upto_region 20 with (go_at_call 13; refine HVs1.out.mono ?_; rintro e w7 ⟨ra, m, cap, vs, rfl, hm, hvs, hrow, hlv7, hb7⟩)
            rw [hm] at b4
            have hvl : vs.length = m := by have := congrArg List.length hvs; rw [List.length_map] at this; omega
            have HVl := Lib.hid hvl
            have HNum : Hid (∀ (i : Nat) y, vs[i]? = some y → y.num = k - 1 - 20 + i + 1 ∧ ll[k - 1 - 20 + i]? = some y.data ∧ k - 1 - 20 + i < k - 1) := Lib.hid (fun i y hy => at_number HAt.out (by rw [HNl.out]; omega) hvs hy)
            have HTl := Lib.hid (At.tail HAt.out (by rw [HNl.out]; omega))
            have HRow := Lib.hid hrow
            have HLv7 : Hid (LV w f pathA (P1 p ra) mb p db cb v k w7) := Lib.hid (HLv.out.add hb7 (.inl rfl) (fun i hi => hi.elim .inl (fun e => .inr (hrow.base i e))))
            obtain ⟨B0, hB0⟩ : ∃ B0, wr.heap.size = B0 := ⟨_, rfl⟩
            rw [hB0] at HRow
            have hm20 : min (max ((k : Int) - 1) 0) 20 = (m : Int) := by omega
            obtain ⟨fs, hfs⟩ : ∃ fs, fs = k - 1 - 20 := ⟨_, rfl⟩
            have hfs2 : max ((k : Int) - 1 - 20) 0 = (fs : Int) := by omega
            rw [← hfs] at HNum
            have HFs := Lib.hid hfs
            have HM4 := Lib.hid b4
            have hm0 : m ≤ 20 := by omega
            clear hm hvs hrow hlv7 hb7 hvl HLv HAt HVs1 cp hfs b4 hB0
            go_upto_region 23 with fail
            go_upto_region 24 with fail
            clear hm20 hfs2
            go_loopg [103] m (fun g i wx => ∃ i0 : Nat, i0 + g = m ∧ i = .int .i64 i0 ∧ Hid (LV w f pathA (P1 p ra) mb p db cb v k wx) ∧ Hid (RowG 49 6 wx B0 ra cap (vs.map (verCells pathA 1000))))
            case atStart => exact ⟨0, by omega, rfl, HLv7, HRow⟩
            case round =>
              clear HLv7 HRow
              obtain ⟨i, hi, rfl, HLvx, HRx⟩ := hrel
              by_cases hlt : i < m
              case pos =>
                obtain ⟨g, rfl⟩ : ∃ g, gk = g + 1 := ⟨gk - 1, by omega⟩
                obtain ⟨gb, hgb⟩ := HRx.out.some_of (by rw [List.length_map, HVl.out]; omega)
                subst hgb
                obtain ⟨⟨yn, yd, yt⟩, hy⟩ : ∃ y, vs[i]? = some y := ⟨_, List.getElem?_eq_getElem (by rw [HVl.out]; exact hlt)⟩
                obtain ⟨q1, q2, q3⟩ := HNum.out i _ hy
                dsimp only at q1 q2
                have hrow : (vs.map (verCells pathA 1000))[i]? = some (verCells pathA 1000 ⟨yn, yd, yt⟩) := by rw [List.getElem?_map, hy]; rfl
                have c0 : wr.cell? ⟨gb, i * 6, none⟩ = some (.int .i64 yn) := HRx.out.cell_at (by decide) hrow (j := 0) rfl
                have c1 : wr.cell? ⟨gb, i * 6 + 1, none⟩ = some (.string pathA) := HRx.out.cell_at (by decide) hrow (j := 1) rfl
                have c2 : wr.cell? ⟨gb, i * 6 + 2, none⟩ = some (.string yd) := HRx.out.cell_at (by decide) hrow (j := 2) rfl
                have c3 : wr.cell? ⟨gb, i * 6 + 3, none⟩ = some (.int .i64 yt) := HRx.out.cell_at (by decide) hrow (j := 3) rfl
                have c4 : wr.cell? ⟨gb, i * 6 + 4, none⟩ = some (.slice none 0 0) := HRx.out.cell_at (by decide) hrow (j := 4) rfl
                have c5 : wr.cell? ⟨gb, i * 6 + 5, none⟩ = some (.int .i64 1000) := HRx.out.cell_at (by decide) hrow (j := 5) rfl
                obtain ⟨j, hj⟩ : ∃ j, j = fs + i := ⟨_, rfl⟩
                have hql : ll[j]? = some yd := by rw [hj]; exact q2
                have hlj := HLl.out j yd hql
                have hbn : Below wr.heap.size wr (wr.alloc (.cells #[.int .i64 yn, .string pathA, .string yd, .int .i64 yt, .slice none 0 0, .int .i64 1000] 49)) := bAlloc (Below.refl _ _) _
                have hxn : BoxIs (wr.alloc (.cells #[.int .i64 yn, .string pathA, .string yd, .int .i64 yt, .slice none 0 0, .int .i64 1000] 49)) wr.heap.size #[.int .i64 yn, .string pathA, .string yd, .int .i64 yt, .slice none 0 0, .int .i64 1000] 49 := heap_alloc_new _ _
                have HXn := Lib.hid hxn
                have HRow8 := Lib.hid (HRx.out.kp (Kp.of (F := fun _ => False) hbn) (fun _ _ e => e))
                have HRx0 := HRx
                have hi2 : (i : Int) < (m : Int) := by omega
                obtain ⟨ba, off, ha, hba, hca⟩ := (HHh.out _ (HLvx.out.under hbn).bel).at (k := j) (u := .string yd) (by rw [List.getElem?_map, hlj]; rfl)
                subst ha
                have hca8 := hca
                have HLv8 := Lib.hid (HLvx.out.under hbn)
                have hj1 : (fs : Int) + (i : Int) = (j : Int) := by omega
                have hj2 : (j : Int) + 1 = (yn : Int) := by omega
                have hjk : (j : Int) < (k : Int) := by omega
                have hw1 : IntKind.i64.wrap (j : Int) = (j : Int) := IntWalk.i64_in _ (by omega)
                have hw2 : IntKind.i64.wrap (yn : Int) = (yn : Int) := IntWalk.i64_in _ (by omega)
                have hw3 : IntKind.i64.wrap ((fs : Int) + (i : Int)) = (j : Int) := by rw [hj1, hw1]
                have hw4 : IntKind.i64.wrap ((j : Int) + 1) = (yn : Int) := by rw [hj2, hw2]
                clear hy q1 q2 q3 hrow hj hql hlj hbn hxn HRx0 hca
                go_upto_region 26 with fail
                clear c0 c1 c2 c3 c4 c5
                obtain ⟨vz, hvz⟩ : ∃ vz, vz = wr.heap.size := ⟨_, rfl⟩
                rw [← hvz] at HXn ⊢
                clear hvz
                generalize wr.alloc _ = w8 at *
                have hS : w8.drew.cell? ⟨vz, 0, none⟩ = some (.int .i64 yn) ∧ w8.drew.cell? ⟨vz, 2, none⟩ = some (.string yd) ∧ w8.drew.cell? ⟨ba, off + j, none⟩ = some (.string yd) := ⟨HXn.out.cell (j := 0) rfl, HXn.out.cell (j := 2) rfl, hca8⟩
                clear hca8
                refine wp_region_seq (fun W => W.cell? ⟨vz, 0, none⟩ = some (.int .i64 yn) ∧ W.cell? ⟨vz, 2, none⟩ = some (.string yd) ∧ W.cell? ⟨ba, off + j, none⟩ = some (.string yd)) [(0, true), (1, true), (2, true), (3, true), (4, true), (5, true), (6, true), (7, true), (8, true), (9, true), (10, true), (11, true), (12, true), (13, true), (14, true), (15, true), (16, true), (17, true)] (by as_aux_lemma => kernel_rfl) (by as_aux_lemma => kernel_rfl) (by decide) (by as_aux_lemma => kernel_rfl) hS ?_
                intro OPS HO
                refine seq_take (o := ⟨_, _, _, _, _, _⟩) (v := ?_) (by rw [HO.out]; rfl) (by rfl) ?_ ?_
                rotate_left 1
                · first | ((intro W _; go_simp) <;> with_reducible rfl) | (intro W hW; obtain ⟨d0, d2, d3⟩ := hW; (go_simp <;> with_reducible rfl))
                try simp only [Act.put, List.setIfInBounds_toArray, List.set_cons_zero, List.set_cons_succ]
                refine seq_take (o := ⟨_, _, _, _, _, _⟩) (v := ?_) (by rw [HO.out]; rfl) (by rfl) ?_ ?_
                rotate_left 1
                · first | ((intro W _; go_simp) <;> with_reducible rfl) | (intro W hW; obtain ⟨d0, d2, d3⟩ := hW; (go_simp <;> with_reducible rfl))
                try simp only [Act.put, List.setIfInBounds_toArray, List.set_cons_zero, List.set_cons_succ]
                refine seq_take (o := ⟨_, _, _, _, _, _⟩) (v := ?_) (by rw [HO.out]; rfl) (by rfl) ?_ ?_
                rotate_left 1
                · first | ((intro W _; go_simp) <;> with_reducible rfl) | (intro W hW; obtain ⟨d0, d2, d3⟩ := hW; (go_simp <;> with_reducible rfl))
                try simp only [Act.put, List.setIfInBounds_toArray, List.set_cons_zero, List.set_cons_succ]
                refine seq_take (o := ⟨_, _, _, _, _, _⟩) (v := ?_) (by rw [HO.out]; rfl) (by rfl) ?_ ?_
                rotate_left 1
                · first | ((intro W _; go_simp) <;> with_reducible rfl) | (intro W hW; obtain ⟨d0, d2, d3⟩ := hW; (go_simp <;> with_reducible rfl))
                try simp only [Act.put, List.setIfInBounds_toArray, List.set_cons_zero, List.set_cons_succ]
                refine seq_take (o := ⟨_, _, _, _, _, _⟩) (v := ?_) (by rw [HO.out]; rfl) (by rfl) ?_ ?_
                rotate_left 1
                · first | ((intro W _; go_simp) <;> with_reducible rfl) | (intro W hW; obtain ⟨d0, d2, d3⟩ := hW; (go_simp <;> with_reducible rfl))
                try simp only [Act.put, List.setIfInBounds_toArray, List.set_cons_zero, List.set_cons_succ]
                refine seq_take (o := ⟨_, _, _, _, _, _⟩) (v := ?_) (by rw [HO.out]; rfl) (by rfl) ?_ ?_
                rotate_left 1
                · first | ((intro W _; go_simp) <;> with_reducible rfl) | (intro W hW; obtain ⟨d0, d2, d3⟩ := hW; (go_simp <;> with_reducible rfl))
                try simp only [Act.put, List.setIfInBounds_toArray, List.set_cons_zero, List.set_cons_succ]
                refine seq_take (o := ⟨_, _, _, _, _, _⟩) (v := ?_) (by rw [HO.out]; rfl) (by rfl) ?_ ?_
                rotate_left 1
                · first | ((intro W _; go_simp) <;> with_reducible rfl) | (intro W hW; obtain ⟨d0, d2, d3⟩ := hW; (go_simp <;> with_reducible rfl))
                try simp only [Act.put, List.setIfInBounds_toArray, List.set_cons_zero, List.set_cons_succ]
                refine seq_take (o := ⟨_, _, _, _, _, _⟩) (v := ?_) (by rw [HO.out]; rfl) (by rfl) ?_ ?_
                rotate_left 1
                · first | ((intro W _; go_simp) <;> with_reducible rfl) | (intro W hW; obtain ⟨d0, d2, d3⟩ := hW; (go_simp <;> with_reducible rfl))
                try simp only [Act.put, List.setIfInBounds_toArray, List.set_cons_zero, List.set_cons_succ]
                refine seq_take (o := ⟨_, _, _, _, _, _⟩) (v := ?_) (by rw [HO.out]; rfl) (by as_aux_lemma => (rw [HO.out]; rfl)) ?_ ?_
                rotate_left 1
                · first | ((intro W _; go_simp) <;> with_reducible rfl) | (intro W hW; obtain ⟨d0, d2, d3⟩ := hW; (go_simp <;> with_reducible rfl))
                try simp only [Act.put, List.setIfInBounds_toArray, List.set_cons_zero, List.set_cons_succ]
                refine seq_take (o := ⟨_, _, _, _, _, _⟩) (v := ?_) (by rw [HO.out]; rfl) (by as_aux_lemma => (rw [HO.out]; rfl)) ?_ ?_
                rotate_left 1
                · first | ((intro W _; go_simp) <;> with_reducible rfl) | (intro W hW; obtain ⟨d0, d2, d3⟩ := hW; (go_simp <;> with_reducible rfl))
                try simp only [Act.put, List.setIfInBounds_toArray, List.set_cons_zero, List.set_cons_succ]
                refine seq_take (o := ⟨_, _, _, _, _, _⟩) (v := ?_) (by rw [HO.out]; rfl) (by as_aux_lemma => (rw [HO.out]; rfl)) ?_ ?_
                rotate_left 1
                · first | ((intro W _; go_simp) <;> with_reducible rfl) | (intro W hW; obtain ⟨d0, d2, d3⟩ := hW; (go_simp <;> with_reducible rfl))
                try simp only [Act.put, List.setIfInBounds_toArray, List.set_cons_zero, List.set_cons_succ]
                refine seq_take (o := ⟨_, _, _, _, _, _⟩) (v := ?_) (by rw [HO.out]; rfl) (by as_aux_lemma => (rw [HO.out]; rfl)) ?_ ?_
                rotate_left 1
                · first | ((intro W _; go_simp) <;> with_reducible rfl) | (intro W hW; obtain ⟨d0, d2, d3⟩ := hW; (go_simp <;> with_reducible rfl))
                try simp only [Act.put, List.setIfInBounds_toArray, List.set_cons_zero, List.set_cons_succ]
                refine seq_take (o := ⟨_, _, _, _, _, _⟩) (v := ?_) (by rw [HO.out]; rfl) (by as_aux_lemma => (rw [HO.out]; rfl)) ?_ ?_
                rotate_left 1
                · first | ((intro W _; go_simp) <;> with_reducible rfl) | (intro W hW; obtain ⟨d0, d2, d3⟩ := hW; (go_simp <;> with_reducible rfl))
                try simp only [Act.put, List.setIfInBounds_toArray, List.set_cons_zero, List.set_cons_succ]
                refine seq_take (o := ⟨_, _, _, _, _, _⟩) (v := ?_) (by rw [HO.out]; rfl) (by as_aux_lemma => (rw [HO.out]; rfl)) ?_ ?_
                rotate_left 1
                · first | ((intro W _; go_simp) <;> with_reducible rfl) | (intro W hW; obtain ⟨d0, d2, d3⟩ := hW; (go_simp <;> with_reducible rfl))
                try simp only [Act.put, List.setIfInBounds_toArray, List.set_cons_zero, List.set_cons_succ]
                refine seq_take (o := ⟨_, _, _, _, _, _⟩) (v := ?_) (by rw [HO.out]; rfl) (by as_aux_lemma => (rw [HO.out]; rfl)) ?_ ?_
                rotate_left 1
                · first | ((intro W _; go_simp) <;> with_reducible rfl) | (intro W hW; obtain ⟨d0, d2, d3⟩ := hW; (go_simp <;> with_reducible rfl))
                try simp only [Act.put, List.setIfInBounds_toArray, List.set_cons_zero, List.set_cons_succ]
                refine seq_take (o := ⟨_, _, _, _, _, _⟩) (v := ?_) (by rw [HO.out]; rfl) (by as_aux_lemma => (rw [HO.out]; rfl)) ?_ ?_
                rotate_left 1
                · first | ((intro W _; go_simp) <;> with_reducible rfl) | (intro W hW; obtain ⟨d0, d2, d3⟩ := hW; (go_simp <;> with_reducible rfl))
                try simp only [Act.put, List.setIfInBounds_toArray, List.set_cons_zero, List.set_cons_succ]
                refine seq_take (o := ⟨_, _, _, _, _, _⟩) (v := ?_) (by rw [HO.out]; rfl) (by as_aux_lemma => (rw [HO.out]; rfl)) ?_ ?_
                rotate_left 1
                · first | ((intro W _; go_simp) <;> with_reducible rfl) | (intro W hW; obtain ⟨d0, d2, d3⟩ := hW; (go_simp <;> with_reducible rfl))
                try simp only [Act.put, List.setIfInBounds_toArray, List.set_cons_zero, List.set_cons_succ]
                refine seq_take (o := ⟨_, _, _, _, _, _⟩) (v := ?_) (by rw [HO.out]; rfl) (by rfl) ?_ ?_
                rotate_left 1
                · first | ((intro W _; go_simp) <;> with_reducible rfl) | (intro W hW; obtain ⟨d0, d2, d3⟩ := hW; (go_simp <;> with_reducible rfl))
                try simp only [Act.put, List.setIfInBounds_toArray, List.set_cons_zero, List.set_cons_succ]
                refine seq_done ?_
                go_wp2_with fail
                go_roundg g
                case measure => omega
                case rel => exact ⟨i + 1, by omega, by go_num, Lib.hid (HLv8.out.under (below_drewn (Below.refl _ _))), Lib.hid (HRow8.out.kp (Kp.of (F := fun _ => False) (below_drewn (Below.refl _ _))) (fun _ _ e => e))⟩
              case neg =>
                have hi2 : ¬ ((i : Int) < (m : Int)) := by omega
                go_upto_region 29 with fail
                go_upto_region 30 with fail
                clear hlt
                go_loopg [129] m (fun g i wx => ∃ (i0 : Nat) (v' : V ByteArray), i0 + g = m ∧ i = .int .i64 i0 ∧ Hid (LV w f pathA (P1 p ra) mb p db cb v' (k + i0) wx) ∧ Hid (RowG 49 6 wx B0 ra cap (vs.map (verCells pathA 1000))) ∧ Hid (i0 < m → m < 20 → Tail ll k i0 v'))
                case atStart => exact ⟨0, v, by omega, rfl, HLvx, HRx, Lib.hid (fun _ _ => HTl.out)⟩
                case round =>
                  clear HLvx HRx hi hi2
                  obtain ⟨i, v', hi, rfl, HLvx, HRx, HTx⟩ := hrel
                  by_cases hlt : i < m
                  case pos =>
                    obtain ⟨g, rfl⟩ : ∃ g, gk = g + 1 := ⟨gk - 1, by omega⟩
                    obtain ⟨gb, hgb⟩ := HRx.out.some_of (by rw [List.length_map, HVl.out]; omega)
                    subst hgb
                    obtain ⟨⟨yn, yd, yt⟩, hy⟩ : ∃ y, vs[i]? = some y := ⟨_, List.getElem?_eq_getElem (by rw [HVl.out]; exact hlt)⟩
                    obtain ⟨q1, q2, q3⟩ := HNum.out i _ hy
                    dsimp only at q1 q2
                    have hrow : (vs.map (verCells pathA 1000))[i]? = some (verCells pathA 1000 ⟨yn, yd, yt⟩) := by rw [List.getElem?_map, hy]; rfl
                    have c0 : wr.cell? ⟨gb, i * 6, none⟩ = some (.int .i64 yn) := HRx.out.cell_at (by decide) hrow (j := 0) rfl
                    have c1 : wr.cell? ⟨gb, i * 6 + 1, none⟩ = some (.string pathA) := HRx.out.cell_at (by decide) hrow (j := 1) rfl
                    have c2 : wr.cell? ⟨gb, i * 6 + 2, none⟩ = some (.string yd) := HRx.out.cell_at (by decide) hrow (j := 2) rfl
                    have c3 : wr.cell? ⟨gb, i * 6 + 3, none⟩ = some (.int .i64 yt) := HRx.out.cell_at (by decide) hrow (j := 3) rfl
                    have c4 : wr.cell? ⟨gb, i * 6 + 4, none⟩ = some (.slice none 0 0) := HRx.out.cell_at (by decide) hrow (j := 4) rfl
                    have c5 : wr.cell? ⟨gb, i * 6 + 5, none⟩ = some (.int .i64 1000) := HRx.out.cell_at (by decide) hrow (j := 5) rfl
                    obtain ⟨j, hj⟩ : ∃ j, j = fs + i := ⟨_, rfl⟩
                    have hql : ll[j]? = some yd := by rw [hj]; exact q2
                    have hlj := HLl.out j yd hql
                    have hbn : Below wr.heap.size wr (wr.alloc (.cells #[.int .i64 yn, .string pathA, .string yd, .int .i64 yt, .slice none 0 0, .int .i64 1000] 49)) := bAlloc (Below.refl _ _) _
                    have hxn : BoxIs (wr.alloc (.cells #[.int .i64 yn, .string pathA, .string yd, .int .i64 yt, .slice none 0 0, .int .i64 1000] 49)) wr.heap.size #[.int .i64 yn, .string pathA, .string yd, .int .i64 yt, .slice none 0 0, .int .i64 1000] 49 := heap_alloc_new _ _
                    have HXn := Lib.hid hxn
                    have HRow8 := Lib.hid (HRx.out.kp (Kp.of (F := fun _ => False) hbn) (fun _ _ e => e))
                    have HRx0 := HRx
                    have hi2 : (i : Int) < (m : Int) := by omega

                    by_cases h20 : m = 20
                    case pos =>
                      have h20' : (m : Int) = 20 := by omega
                      have HBe := Lib.hid (HLvx.out.under hbn).bel
                      clear hy q1 q2 q3 hrow hj hql hlj hbn hxn h20
                      go_wp2_with fail
                      go_ret
                      exact ⟨rfl, HBe.out⟩
                    case neg =>
                      have h20' : ¬ ((m : Int) = 20) := by omega
                      have hf0 : fs = 0 := by have := HFs.out; have := HM4.out; omega
                      have hk0 : 0 < k := by omega
                      have hk20 : k - 1 < 20 := by have := HM4.out; omega
                      obtain ⟨H, d, hih, hH1, hH2, hH3⟩ := HTx.out hlt (by omega) hk20 hk0
                      have hji : j = i := by omega
                      have hHx : H[i]? = some yd := hH3 i yd (by rw [← hji, List.getElem?_take_of_lt (by omega)]; exact hql)
                      have hsz : (yd.size : Int) ≤ f.maxSize := HAny.out yd (List.mem_of_getElem? hlj) HBig.out
                      have hyn : yn = i + 1 := by omega
                      have hms := HMs.out
                      have hpb := put_bounds hih yd hH2
                      have HLv8 : Hid (LV w f pathA (P2 p (some ⟨gb, 0, none⟩) wr.heap.size) mb p db cb v' (k + i) _) := Lib.hid (HLvx.out.add hbn (.inl (.inl rfl)) (fun z hz => hz.elim .inl (fun e => .inr ⟨Nat.le_of_eq e.symm, by rw [e]; exact hxn.lt⟩)))
                      have HRs1 := Lib.hid (fun P W (h : LV w f pathA P mb p db cb v' (k + i) W) => HRs.out P W v' (k + i) h (by omega) H d hih hH2 i yn yd hHx hyn hsz)
                      have HTn : Hid (H.length + 1 < 20 → Tail ll k (i + 1) (v'.put yd)) := Lib.hid (fun h => tail_next hih hH1 hH3 yd h)
                      have HPb := Lib.hid hpb
                      clear hy q1 q2 q3 hrow hj hql hlj hbn hxn h20 hih hH1 hH3 hHx hpb hji hyn hf0 HTx HRx HLvx
                      go_upto_region 33 with fail
                      clear c0 c1 c2 c3 c4 c5
                      obtain ⟨vz, hvz⟩ : ∃ vz, vz = wr.heap.size := ⟨_, rfl⟩
                      rw [← hvz] at HXn HLv8 ⊢
                      clear hvz
                      generalize wr.alloc _ = w8 at *
                      have hS : w8.drew.cell? ⟨p, 0, none⟩ = some (ptr mb) ∧ w8.drew.cell? ⟨vz, 0, none⟩ = some (.int .i64 yn) := ⟨HLv8.out.cell, HXn.out.cell (j := 0) rfl⟩
                      refine wp_region_seq (fun W => W.cell? ⟨p, 0, none⟩ = some (ptr mb) ∧ W.cell? ⟨vz, 0, none⟩ = some (.int .i64 yn)) [(0, true), (1, true), (2, true), (3, true), (4, true), (5, true), (6, false), (7, true)] (by as_aux_lemma => kernel_rfl) (by as_aux_lemma => kernel_rfl) (by decide) (by as_aux_lemma => kernel_rfl) hS ?_
                      intro OPS HO
                      refine seq_take (o := ⟨_, _, _, _, _, _⟩) (v := ?_) (by rw [HO.out]; rfl) (by rfl) ?_ ?_
                      rotate_left 1
                      · first | ((intro W _; go_simp) <;> with_reducible rfl) | (intro W hW; obtain ⟨d1, d0⟩ := hW; (go_simp <;> with_reducible rfl))
                      try simp only [Act.put, List.setIfInBounds_toArray, List.set_cons_zero, List.set_cons_succ]
                      refine seq_take (o := ⟨_, _, _, _, _, _⟩) (v := ?_) (by rw [HO.out]; rfl) (by rfl) ?_ ?_
                      rotate_left 1
                      · first | ((intro W _; go_simp) <;> with_reducible rfl) | (intro W hW; obtain ⟨d1, d0⟩ := hW; (go_simp <;> with_reducible rfl))
                      try simp only [Act.put, List.setIfInBounds_toArray, List.set_cons_zero, List.set_cons_succ]
                      refine seq_take (o := ⟨_, _, _, _, _, _⟩) (v := ?_) (by rw [HO.out]; rfl) (by rfl) ?_ ?_
                      rotate_left 1
                      · first | ((intro W _; go_simp) <;> with_reducible rfl) | (intro W hW; obtain ⟨d1, d0⟩ := hW; (go_simp <;> with_reducible rfl))
                      try simp only [Act.put, List.setIfInBounds_toArray, List.set_cons_zero, List.set_cons_succ]
                      refine seq_take (o := ⟨_, _, _, _, _, _⟩) (v := ?_) (by rw [HO.out]; rfl) (by rfl) ?_ ?_
                      rotate_left 1
                      · first | ((intro W _; go_simp) <;> with_reducible rfl) | (intro W hW; obtain ⟨d1, d0⟩ := hW; (go_simp <;> with_reducible rfl))
                      try simp only [Act.put, List.setIfInBounds_toArray, List.set_cons_zero, List.set_cons_succ]
                      refine seq_take (o := ⟨_, _, _, _, _, _⟩) (v := ?_) (by rw [HO.out]; rfl) (by rfl) ?_ ?_
                      rotate_left 1
                      · first | ((intro W _; go_simp) <;> with_reducible rfl) | (intro W hW; obtain ⟨d1, d0⟩ := hW; (go_simp <;> with_reducible rfl))
                      try simp only [Act.put, List.setIfInBounds_toArray, List.set_cons_zero, List.set_cons_succ]
                      refine seq_take (o := ⟨_, _, _, _, _, _⟩) (v := ?_) (by rw [HO.out]; rfl) (by rfl) ?_ ?_
                      rotate_left 1
                      · first | ((intro W _; go_simp) <;> with_reducible rfl) | (intro W hW; obtain ⟨d1, d0⟩ := hW; (go_simp <;> with_reducible rfl))
                      try simp only [Act.put, List.setIfInBounds_toArray, List.set_cons_zero, List.set_cons_succ]
                      refine seq_do (o := ⟨_, _, _, _, _, _⟩) (by rw [HO.out]; rfl) (by rfl) (fun K hK => ?_)
                      have HR33 := Lib.hid (HRs1.out (P2 p (some ⟨gb, 0, none⟩) vz) w8.drew (HLv8.out.under (below_drewn (Below.refl _ _))))
                      go_wp2_with (go_at_call 14; refine HR33.out.mono ?_; rintro e w9 ⟨rfl, hlv9, hk9⟩; have HLv9 := Lib.hid hlv9; have HX9 : Hid (BoxIs w9 vz _ _) := Lib.hid ((show BoxIs w8.drew vz _ _ from HXn.out).kp hk9 (fun e => e (.inr rfl))); have HRow9 := Lib.hid ((HRow8.out.kp (Kp.of (F := fun _ => False) (below_drewn (Below.refl _ _))) (fun _ _ e => e)).kp hk9 (fun z hz e => e (.inl (.inr hz)))); replace hS : w9.cell? ⟨p, 0, none⟩ = some (ptr mb) ∧ w9.cell? ⟨vz, 0, none⟩ = some (.int .i64 yn) := ⟨hlv9.cell, HX9.out.cell (j := 0) rfl⟩; clear hlv9 hk9 HR33)
                      refine hK.out _ _ hS (fun _ => ?_)
                      clear hK K
                      try simp only [Act.put, List.setIfInBounds_toArray, List.set_cons_zero, List.set_cons_succ]
                      refine seq_take (o := ⟨_, _, _, _, _, _⟩) (v := ?_) (by rw [HO.out]; rfl) (by rfl) ?_ ?_
                      rotate_left 1
                      · first | ((intro W _; go_simp) <;> with_reducible rfl) | (intro W hW; obtain ⟨d1, d0⟩ := hW; (go_simp <;> with_reducible rfl))
                      try simp only [Act.put, List.setIfInBounds_toArray, List.set_cons_zero, List.set_cons_succ]
                      refine seq_done ?_
                      obtain ⟨cp, d0⟩ := hS
                      clear d0
                      have HWh1 := Lib.hid (HWh.out (P2 p (some ⟨gb, 0, none⟩) vz) w9 (v'.put yd) (k + i + 1) yd HLv9.out rfl (by omega))
                      go_upto_region 36 with (go_at_call 15; refine HWh1.out.mono ?_; rintro e w10 ⟨rfl, hlv10, hk10⟩; have HLv10 := Lib.hid hlv10; have HX10 := Lib.hid (HX9.out.kp hk10 (fun e => e (.inr rfl))); have HRow10 := Lib.hid (HRow9.out.kp hk10 (fun z hz e => e (.inl (.inr hz)))); clear hlv10 hk10 HWh1)
                      clear cp
                      have cp := HLv10.out.cell
                      have d2 : w10.cell? ⟨vz, 2, none⟩ = some (.string yd) := HX10.out.cell (j := 2) rfl
                      have HVs2 := Lib.hid (HVs.out (P2 p (some ⟨gb, 0, none⟩) vz) w10 (v'.put yd) (k + i + 1) HLv10.out (by rw [HPb.out]; omega))
                      obtain ⟨m2, hm2⟩ : ∃ m2, H.length + 1 = m2 := ⟨_, rfl⟩
                      rw [hm2] at HPb HTn
                      by_cases hge : 20 ≤ m2
                      case pos =>
                        have hge' : (20 : Int) ≤ (m2 : Int) := by omega
                        clear hm2
                        go_wp2_with (go_at_call 13; refine HVs2.out.mono ?_; rintro e w11 ⟨ra2, m3, cap2, vs2, rfl, hm3, hvs2, hr2, hlv11, hb11⟩; rw [HPb.out] at hm3; subst hm3; have HBe := Lib.hid hlv11.bel; clear hvs2 hr2 hlv11 hb11)
                        go_ret
                        exact ⟨rfl, HBe.out⟩
                      case neg =>
                        have hge' : ¬ ((20 : Int) ≤ (m2 : Int)) := by omega
                        clear hm2
                        go_wp2_with (go_at_call 13; refine HVs2.out.mono ?_; rintro e w11 ⟨ra2, m3, cap2, vs2, rfl, hm3, hvs2, hr2, hlv11, hb11⟩; rw [HPb.out] at hm3; subst hm3; have HLv11 := Lib.hid hlv11; have HRow11 := Lib.hid (HRow10.out.kp (Kp.of (F := fun _ => False) hb11) (fun _ _ e => e)); clear hvs2 hr2 hlv11 hb11)
                        go_roundg g
                        case measure => omega
                        case rel => exact ⟨i + 1, v'.put yd, by omega, by go_num, Lib.hid (HLv11.out.less (.inl rfl) (fun z hz => .inl hz)), HRow11, Lib.hid (fun _ _ => HTn.out (by omega))⟩
                  case neg =>
                    have hi2 : ¬ ((i : Int) < (m : Int)) := by omega
                    go_wp2_with fail
                    go_ret
                    exact ⟨rfl, HLvx.out.bel⟩
end Go.Proofs.YtmafnjapailliaaGreatDoor
