/-
  The texts Tt2, Tt4, in one.
-/
import Derived.Test.YtikegddlbelfaaaGreatDoorTrG
import Derived.Test.YtikegddlbelfaaaGreatDoorDeG
import Derived.Test.YtikegddlbelfaaaGreatDoorTn1
import Derived.Test.YtikegddlbelfaaaGreatDoorPlainFeat
namespace Go.Proofs.YtikegddlbelfaaaGreatDoor
open Go.RowKit

/-- The features of the law's store. -/
def topF (x : Wh.Enc) : Wh.Feat := { has := if x.cs then 16 else 18, sums := 0, prec := 1, maxName := x.max, maxPath := 1024, maxSize := 1024, page := 2, partSize := 1, forbid := x.forbid }
theorem topF_bit (x : Wh.Enc) : hasB (topF x) 2 = !x.cs ∧ hasB (topF x) 1 = false ∧ hasB (topF x) 256 = false ∧ hasB (topF x) 512 = false ∧ hasB (topF x) 1024 = false := by
  have key : ∀ b : Bool, (!(bits BinOp.and IntKind.i64 (if b = true then 16 else 18) 2 == 0)) = !b ∧ (!(bits BinOp.and IntKind.i64 (if b = true then 16 else 18) 1 == 0)) = false ∧ (!(bits BinOp.and IntKind.i64 (if b = true then 16 else 18) 256 == 0)) = false ∧ (!(bits BinOp.and IntKind.i64 (if b = true then 16 else 18) 512 == 0)) = false ∧ (!(bits BinOp.and IntKind.i64 (if b = true then 16 else 18) 1024 == 0)) = false := by decide
  exact key x.cs
theorem topF_cs (x : Wh.Enc) : hasB (topF x) 2 = false → x.cs = true := by
  rw [(topF_bit x).1]
  cases x.cs <;> simp
theorem formP_mem (p : UInt8 → Bool) : ∀ {l : List UInt8}, Wh.formP p l = true → ∀ b ∈ l, p b = true
  | [], _, b, hb => by simp at hb
  | c :: r, h, b, hb => by
    unfold Wh.formP at h
    simp only [Bool.and_eq_true] at h
    rcases List.mem_cons.1 hb with rfl | hb
    · exact h.1.2
    · exact formP_mem p h.2 b hb
theorem feat_ascii {f : Wh.Feat} (h : Wh.featErr f = 0) : ∀ b ∈ f.forbid.data.toList, b.toNat < 128 := by
  intro b hb
  unfold Wh.featErr at h
  split at h
  · omega
  · rename_i h1
    simp only [Bool.or_eq_true, Bool.not_eq_true', not_or, Bool.not_eq_true, Bool.not_eq_false] at h1
    have := formP_mem Wh.okF h1.2 b hb
    unfold Wh.okF at this
    simp at this
    omega
theorem GoodP.ok {x : Wh.Enc} {p : ByteArray} (h : GoodP x p) (hx : Wh.encErr x = 0) : PathOk (topF x) (Wh.encText x p) := by
  have hp := Wh.encText_path hx h.path h.enc
  refine ⟨?_, by simp [Wh.pathErr, hp], ?_⟩
  · cases e : (Wh.encText x p).toList.isEmpty with
    | false => rfl
    | true =>
      have h1 := h.names
      rw [Wh.namesOf_none (by rw [← Lib.toList_data]; exact e)] at h1
      have h2 := congrArg List.length h1
      rw [Wh.encsOf_length, List.length_nil] at h2
      have := names_pos h.ne
      omega
  · unfold fitsB
    rw [Bool.and_eq_true]
    constructor
    · have := h.size
      rw [Bool.not_eq_true', decide_eq_false_iff_not]
      show ¬ ((1024 : Int) < _)
      omega
    · rw [Bool.not_eq_true', List.any_eq_false]
      intro n hn
      rw [h.names] at hn
      have hP := Wh.permitted_of hx h.path h.enc hn
      rw [unfit_eq, Bool.or_eq_true, not_or]
      refine ⟨by rw [decide_eq_true_eq]; exact hP.len, ?_⟩
      rw [Wh.containsAny_eq, List.any_eq_true]
      rintro ⟨b, hb, hc⟩
      have := hP.forbid b hb
      have hc' : x.forbid.data.toList.contains b = true := by simpa [topF] using hc
      rw [this] at hc'
      cases hc'
def truths (Wl : List ByteArray) (q : ByteArray) : Option Value := if Wl.any (fun y => decide (y = q)) = true then some (.bool true) else none
theorem truths_in {Wl : List ByteArray} {q : ByteArray} (h : q ∈ Wl) : truths Wl q = some (.bool true) := by
  unfold truths
  rw [if_pos (List.any_eq_true.2 ⟨q, h, by simp⟩)]
theorem truths_out {Wl : List ByteArray} {q : ByteArray} (h : q ∉ Wl) : truths Wl q = none := by
  unfold truths
  rw [if_neg]
  intro e
  obtain ⟨y, hy, e⟩ := List.any_eq_true.1 e
  simp at e
  exact h (e ▸ hy)
theorem truths_mem {Wl : List ByteArray} {q : ByteArray} {v : Value} (h : truths Wl q = some v) : q ∈ Wl := by
  by_cases hq : q ∈ Wl
  · exact hq
  · rw [truths_out hq] at h
    cases h
theorem truths_cons (Wl : List ByteArray) (p : ByteArray) : upd (truths Wl) p (some (.bool true)) = truths (p :: Wl) := by
  funext q
  by_cases h : q = p
  · rw [h, upd_same, truths_in (by simp)]
  · rw [upd_other _ _ h]
    by_cases hq : q ∈ Wl
    · rw [truths_in hq, truths_in (List.mem_cons_of_mem _ hq)]
    · rw [truths_out hq, truths_out (fun e => (List.mem_cons.1 e).elim h hq)]
theorem TopI.nil (x : Wh.Enc) (f : Wh.Feat) (now : Int) (rb kb : Nat) : TopI x (fun q => q ∈ ([] : List ByteArray)) ⟨f, now, 0, 0, tr0 rb kb⟩ := by
  refine ⟨fun p h => by simp at h, fun ks n h hd => ?_, fun p h => by simp at h, fun ks n h _ => .inl (tr0_some h).1, fun ks k n h => ?_⟩
  · obtain ⟨_, rfl⟩ := tr0_some h
    cases hd
  · obtain ⟨e, _⟩ := tr0_some h
    simp at e
theorem code_good {x : Wh.Enc} {p : ByteArray} (h : encCode x p = 0) (h0 : p.toList.isEmpty = false) : GoodP x p ∧ encGives x p = Wh.encText x p := by
  obtain ⟨h1, h2, _⟩ := code_zero h
  refine ⟨⟨?_, h0, h1⟩, h2⟩
  unfold encCode at h
  split at h
  · rename_i h3
    exact absurd h h3
  · split at h
    · omega
    · rename_i h4
      exact Wh.pathErr_zero (by simpa using h4)
/-- What the law's first loop keeps. -/
structure TopZ (w : World) (x : Wh.Enc) (a : Option Addr) (c : Nat) (M : MB) (eb mb : Nat) (Wl : List ByteArray) (s : TSt) (W : World) : Prop where
  bel : Below w.heap.size w W
  mem : MemT W w.heap.size M s
  enc : BoxIs W eb (encCells x a c) 24
  map : MapF W mb (truths Wl)
  mown : ¬ s.F.own mb
  lo : w.heap.size ≤ eb ∧ w.heap.size ≤ mb
  top : TopI x (fun q => q ∈ Wl) s
  sf : s.f = topF x ∧ s.now = 5
  cnt : 0 ≤ s.cnt ∧ s.cnt ≤ ((Wl.map (fun p => (Wh.namesOf p).length)).sum : Nat)
  made : 0 ≤ s.made ∧ s.made ≤ (Wl.length : Nat)
section
variable {w W W' : World} {x : Wh.Enc} {a : Option Addr} {c : Nat} {M : MB} {eb mb : Nat} {Wl : List ByteArray} {s : TSt} {p : ByteArray}
theorem TopZ.under (h : TopZ w x a c M eb mb Wl s W) (hb : Below W.heap.size W W') : TopZ w x a c M eb mb Wl s W' :=
  ⟨h.bel.trans (Below.mono hb h.bel.size), h.mem.below hb, h.enc.under hb, h.map.kp (Kp.of (F := fun _ => False) hb) (fun e => e), h.mown, h.lo, h.top, h.sf, h.cnt, h.made⟩
theorem TopZ.cs (h : TopZ w x a c M eb mb Wl s W) : hasB s.f 2 = false → x.cs = true := by rw [h.sf.1]; exact topF_cs x
theorem TopZ.mb_ne (h : TopZ w x a c M eb mb Wl s W) : ∀ i, MTf M s.F i → i ≠ mb := by
  rintro i hi rfl
  obtain ⟨ca, hca, _⟩ := h.mem.ca
  obtain ⟨si, hsi, _⟩ := h.mem.si
  rcases hi with e | e | e | e
  · exact h.mem.box.ne_f h.map e.symm
  · exact hca.ne_f h.map e.symm
  · exact hsi.ne_f h.map e.symm
  · exact h.mown e
theorem TopZ.eb_ne (h : TopZ w x a c M eb mb Wl s W) : ∀ i, MTf M s.F i → i ≠ eb := by
  rintro i hi rfl
  obtain ⟨ca, hca, _⟩ := h.mem.ca
  obtain ⟨si, hsi, _⟩ := h.mem.si
  rcases hi with e | e | e | e
  · exact h.mem.box.ne h.enc (by decide) e.symm
  · exact hca.ne h.enc (by decide) e.symm
  · exact hsi.ne h.enc (by decide) e.symm
  · exact h.mem.own_ne h.enc (by decide) e
/-- One path more has been put. -/
def PutZ2 (w : World) (x : Wh.Enc) (a : Option Addr) (c : Nat) (M : MB) (eb mb : Nat) (Wl : List ByteArray) (p : ByteArray) (e : Ending) (w' : World) : Prop :=
  ∃ (A : ByteArray) (t : Int) (s' : TSt), e = .returned (.tuple #[.agg (infoArr A false p.size t (.slice none 0 0) ⟨#[]⟩), .int .i64 0]) ∧ Below w.heap.size w w' ∧ MemT w' w.heap.size M s' ∧ BoxIs w' eb (encCells x a c) 24 ∧ MapF w' mb (truths Wl) ∧ ¬ s'.F.own mb ∧ TopI x (fun q => q ∈ p :: Wl) s' ∧ (s'.f = topF x ∧ s'.now = 5) ∧ (0 ≤ s'.cnt ∧ s'.cnt ≤ (((p :: Wl).map (fun p => (Wh.namesOf p).length)).sum : Nat)) ∧ (0 ≤ s'.made ∧ s'.made ≤ ((p :: Wl).length : Nat))
theorem TopZ.put (h : TopZ w x a c M eb mb Wl s W) (hE : Env w) (hT : EnvT w) (hx : Wh.encErr x = 0) (hfe : Wh.featErr (topF x) = 0) (hfl : x.forbid.size < 4294967281) (hp : GoodP x p) (hno : NoClash (fun q => q ∈ Wl) p) (hN : (((p :: Wl).map (fun p => (Wh.namesOf p).length)).sum : Nat) ≤ 4000) (hW : Wl.length ≤ 4000) :
    Calls Tryz.prog 11 #[ptr M.b, .string (Wh.encText x p), .string p, .int .i64 0, .slice none 0 0] W (PutZ2 w x a c M eb mb Wl p) := by
  have hk := hp.keys s.f
  obtain ⟨b2, b1, b256, b512, b1024⟩ := topF_bit x
  rw [← h.sf.1] at b2 b1 b256 b512 b1024
  have hpos := names_pos hp.ne
  have hps := Wh.path_size hp.path
  have hpk := hp.ok hx
  rw [List.map_cons, List.sum_cons] at hN
  have hcnt := h.cnt
  have hmade := h.made
  refine (putCT_any w W M s (Wh.encText x p) p 0 h.bel h.mem hE hT hp.size hpk.ne ?_ ?_ ?_ ?_ ?_ b1024 b256 b512 ?_ ?_ ?_ ?_ (by decide) ?_ ?_).mono ?_
  · intro W1 hb1 hB1
    refine isNewT_ok M.b s.f (Wh.encText x p) W1 (hE.below hb1 (Nat.le_refl _)) (by rw [h.sf.1]; exact hpk) hB1 ?_ ?_
    · rw [h.sf.1]; exact hfl
    · rw [h.sf.1]; exact feat_ascii hfe
  · omega
  · omega
  · intro i n hw
    rw [hk] at hw
    exact h.top.way h.cs hp hno hw.1 hw.2.1
  · intro m hm
    rw [hk] at hm
    exact h.top.file h.cs hp hno hm
  · rw [h.sf.1]; rfl
  · intro z hz
    rw [hk] at hz
    exact h.top.putz h.cs hp hno b1 (by rw [h.sf.1]; exact Int.le_refl 1024) (by omega) z hz
  · rw [hk]
    exact hp.klen s.f
  · exact Nat.le_trans hps (by decide)
  · rw [h.sf.2]; decide
  · rw [h.sf.1]; exact (by decide : (1 : Int) ≤ 1 ∧ (1 : Int) ≤ 9223372036854775807)
  · rintro e w' ⟨s', n, rfl, hm', ⟨hf', hn'⟩, hF', ⟨hd, hda, _, hmt⟩, hkp, hown, hset⟩
    rw [hk] at hF' hset
    rw [hp.names] at hset
    have hne : ¬ s'.F.own mb := fun ho => by
      rcases hown mb ho with h1 | h1
      · exact h.mown h1
      · have := h.map.lt
        omega
    refine ⟨_, _, s', rfl, h.bel.trans (hkp.below (fun i hi => h.mem.mf hi) h.bel.size), hm', h.enc.kp hkp (fun hi => h.eb_ne _ hi rfl), h.map.kp hkp (fun hi => h.mb_ne _ hi rfl), hne, ?_, ⟨hf'.trans h.sf.1, hn'.trans h.sf.2⟩, ?_, ?_⟩
    · have := h.top.put hp hf' hset hF' hd hda hmt
      refine ⟨fun q hq => this.good q ?_, fun ks r hr hrd => ?_, fun q hq => this.have_ q ?_, fun ks r hr hrd => ?_, this.nms⟩
      · exact List.mem_cons.1 hq
      · obtain ⟨q, hq, h2⟩ := this.files ks r hr hrd
        exact ⟨q, List.mem_cons.2 hq, h2⟩
      · exact List.mem_cons.1 hq
      · rcases this.dirs ks r hr hrd with h2 | ⟨q, i, hq, h2⟩
        · exact .inl h2
        · exact .inr ⟨q, i, List.mem_cons.2 hq, h2⟩
    · rw [List.map_cons, List.sum_cons]
      rcases hset with ⟨_, _, _, ⟨i0, n0, hw0, hc'⟩, _⟩ | ⟨m, _, e, _⟩
      · have hl := keysP_length x s.f p
        have := hw0.1
        omega
      · rw [e]
        dsimp only
        omega
    · rw [List.length_cons]
      rcases hset with ⟨_, hm2, _⟩ | ⟨m, _, e, _⟩
      · omega
      · rw [e]
        dsimp only
        omega
theorem TopZ.step {W1 W2 : World} {s' : TSt} (hlo : w.heap.size ≤ eb ∧ w.heap.size ≤ mb) (hb : Below w.heap.size w W) (hm : MemT W w.heap.size M s') (hx : BoxIs W eb (encCells x a c) 24) (hmp : MapF W mb (truths Wl)) (ho : ¬ s'.F.own mb)
    (htop : TopI x (fun q => q ∈ p :: Wl) s') (hsf : s'.f = topF x ∧ s'.now = 5) (hcnt : 0 ≤ s'.cnt ∧ s'.cnt ≤ (((p :: Wl).map (fun p => (Wh.namesOf p).length)).sum : Nat)) (hmade : 0 ≤ s'.made ∧ s'.made ≤ ((p :: Wl).length : Nat))
    (hb2 : Below W.heap.size W W1) (hmp2 : MapF W2 mb (upd (truths Wl) p (some (.bool true)))) (hk : Kp (fun i => i = mb) W1 W2) : TopZ w x a c M eb mb (p :: Wl) s' W2 := by
  have hm1 := hm.below hb2
  have hmp1 := hmp.kp (Kp.of (F := fun _ => False) hb2) (fun e => e)
  have hbel := hb.trans (Below.mono hb2 hb.size)
  refine ⟨hbel.trans (hk.below (fun i e => by rw [e]; exact hlo.2) hbel.size), hm1.kp hk (fun i hi e => ?_), (hx.under hb2).kp hk (fun e => (hx.under hb2).ne_f hmp1 e), by rw [← truths_cons]; exact hmp2, ho, hlo, htop, hsf, hcnt, hmade⟩
  obtain ⟨ca, hca, _⟩ := hm1.ca
  obtain ⟨si, hsi, _⟩ := hm1.si
  subst e
  rcases hi with (e | e | e | e) | e
  · rw [e] at hmp1; exact hm1.box.ne_f hmp1 rfl
  · rw [e] at hmp1; exact hca.ne_f hmp1 rfl
  · rw [e] at hmp1; exact hsi.ne_f hmp1 rfl
  · exact ho e
  · rw [e] at hmp1; exact hm1.clk.ne_f hmp1 rfl
end
end Go.Proofs.YtikegddlbelfaaaGreatDoor
namespace Go.Proofs.YtikegddlbelfaaaGreatDoor
open Go.RowKit

/-- What All has told, in the law's terms. -/
structure AllOk (x : Wh.Enc) (Wl : List ByteArray) (s : TSt) (l : List Inf) : Prop where
  nodup : (l.map Inf.path).Nodup
  file : ∀ y ∈ l, y.dir = false → ∃ p n, p ∈ Wl ∧ y.path = Wh.encText x p ∧ s.F (keysP x s.f p) = some n ∧ n.dir = false ∧ n.data = p
  all : ∀ p ∈ Wl, ∃ y ∈ l, y.dir = false ∧ y.path = Wh.encText x p
theorem allOk {w : World} {B rb : Nat} {x : Wh.Enc} {Wl : List ByteArray} {s : TSt} {l out : List Inf} (hx : Wh.encErr x = 0) (hcs : hasB s.f 2 = false → x.cs = true) (hT : TreeAt w B rb (kyOf s.f) s.F) (h : TopI x (fun q => q ∈ Wl) s) (hr : Reads s [] out) (hp : l.Perm out) : AllOk x Wl s l := by
  have hNm := h.named hx hcs hT
  obtain ⟨ps, rfl, h2, h3⟩ := hr
  have hks : ∀ p, p ∈ ps → s.F p.1 = some p.2 ∧ p.1 ≠ [] := fun p hp => by
    obtain ⟨h4, t, h5, h6⟩ := (h3 p).1 hp
    exact ⟨h4, by rw [h6]; simpa using h5⟩
  have hpath : ∀ p n, s.F (keysP x s.f p) = some n → p ∈ Wl → pathR s.F (keysP x s.f p).reverse = Wh.encText x p := fun p n hn hpW => by
    have hg := h.good p hpW
    have hpos := names_pos hg.ne
    obtain ⟨k, hk⟩ : ∃ k, (Wh.namesOf p).length = k + 1 := ⟨(Wh.namesOf p).length - 1, by omega⟩
    have e : (keysP x s.f p).take (k + 1) = keysP x s.f p := List.take_of_length_le (by rw [keysP_length]; omega)
    have := h.pathIs hcs hT hg k (by omega) n (by rw [e]; exact hn)
    rw [e, hg.full (by omega)] at this
    exact this
  refine ⟨?_, fun y hy hd => ?_, fun p hpW => ?_⟩
  · refine ((hp.map Inf.path).nodup_iff).2 ?_
    rw [List.map_map]
    refine List.pairwise_map.2 ((List.pairwise_map.1 h2).imp_of_mem (fun {a b} ha hb hab e => hab ?_))
    have e' : pathR s.F a.1.reverse = pathR s.F b.1.reverse := e
    have h4 := hNm.keys _ _ (hks a ha).1 (hks a ha).2
    have h5 := hNm.keys _ _ (hks b hb).1 (hks b hb).2
    rw [← h4, ← h5, e']
  · obtain ⟨p, hpp, rfl⟩ := List.mem_map.1 (hp.mem_iff.1 hy)
    obtain ⟨q, hq, e, hda, _⟩ := h.files _ _ (hks p hpp).1 hd
    refine ⟨q, p.2, hq, ?_, by rw [← e]; exact (hks p hpp).1, hd, hda⟩
    show pathR s.F p.1.reverse = _
    rw [e]
    exact hpath q p.2 (by rw [← e]; exact (hks p hpp).1) hq
  · obtain ⟨n, hn, hd⟩ := h.have_ p hpW
    have hne : keysP x s.f p ≠ [] := fun e => by
      have := congrArg List.length e
      rw [keysP_length, List.length_nil] at this
      have := names_pos (h.good p hpW).ne
      omega
    have hin : (keysP x s.f p, n) ∈ ps := (h3 _).2 ⟨hn, keysP x s.f p, hne, by simp⟩
    exact ⟨infK s (keysP x s.f p) n, hp.mem_iff.2 (List.mem_map.2 ⟨_, hin, rfl⟩), hd, hpath p n hn hpW⟩
/-- What is still wanted, once j entries were looked into. -/
structure LeftOk (x : Wh.Enc) (Wl : List ByteArray) (l : List Inf) (j : Nat) (g : ByteArray → Option Value) : Prop where
  val : ∀ q v, g q = some v → v = .bool true
  iff : ∀ q, g q = some (.bool true) ↔ q ∈ Wl ∧ ∃ y, y ∈ l.drop j ∧ y.dir = false ∧ y.path = Wh.encText x q
section
variable {x : Wh.Enc} {Wl : List ByteArray} {s : TSt} {l : List Inf} {j : Nat} {g : ByteArray → Option Value} {y : Inf}
theorem LeftOk.start (h : AllOk x Wl s l) : LeftOk x Wl l 0 (truths Wl) := by
  refine ⟨fun q v hv => ?_, fun q => ?_⟩
  · rw [truths_in (truths_mem hv)] at hv
    injection hv with hv
    exact hv.symm
  · rw [List.drop_zero]
    constructor
    · intro hv
      obtain ⟨y, hy, h1, h2⟩ := h.all q (truths_mem hv)
      exact ⟨truths_mem hv, y, hy, h1, h2⟩
    · rintro ⟨hq, _⟩
      exact truths_in hq
theorem drop_split (hy : l[j]? = some y) : l.drop j = y :: l.drop (j + 1) := by
  obtain ⟨h1, h2⟩ := List.getElem?_eq_some_iff.1 hy
  rw [List.drop_eq_getElem_cons h1, h2]
theorem LeftOk.skip (h : LeftOk x Wl l j g) (hy : l[j]? = some y) (hd : y.dir = true) : LeftOk x Wl l (j + 1) g := by
  refine ⟨h.val, fun q => ?_⟩
  rw [h.iff q, drop_split hy]
  constructor
  · rintro ⟨hq, z, hz, h1, h2⟩
    rcases List.mem_cons.1 hz with rfl | hz
    · rw [hd] at h1; cases h1
    · exact ⟨hq, z, hz, h1, h2⟩
  · rintro ⟨hq, z, hz, h1, h2⟩
    exact ⟨hq, z, List.mem_cons_of_mem _ hz, h1, h2⟩
theorem LeftOk.take (h : LeftOk x Wl l j g) (hA : AllOk x Wl s l) (hgood : ∀ p ∈ Wl, GoodP x p) (hy : l[j]? = some y) (hd : y.dir = false) {p : ByteArray} (hp : p ∈ Wl) (he : y.path = Wh.encText x p) : LeftOk x Wl l (j + 1) (upd g p none) := by
  have hnd : ((l.drop j).map Inf.path).Nodup := hA.nodup.sublist ((List.drop_sublist j l).map _)
  rw [drop_split hy, List.map_cons, List.nodup_cons] at hnd
  refine ⟨fun q v hv => ?_, fun q => ?_⟩
  · by_cases e : q = p
    · rw [e, upd_same] at hv; cases hv
    · rw [upd_other _ _ e] at hv
      exact h.val q v hv
  · by_cases e : q = p
    · rw [e, upd_same]
      constructor
      · intro h9; cases h9
      · rintro ⟨_, z, hz, h1, h2⟩
        exact absurd (List.mem_map.2 ⟨z, hz, by rw [h2, ← he]⟩) hnd.1
    · rw [upd_other _ _ e, h.iff q, drop_split hy]
      constructor
      · rintro ⟨hq, z, hz, h1, h2⟩
        rcases List.mem_cons.1 hz with rfl | hz
        · exact absurd (Wh.enc_inj (hgood q hq).enc (hgood p hp).enc (h2.symm.trans he)) e
        · exact ⟨hq, z, hz, h1, h2⟩
      · rintro ⟨hq, z, hz, h1, h2⟩
        exact ⟨hq, z, List.mem_cons_of_mem _ hz, h1, h2⟩
theorem LeftOk.done (h : LeftOk x Wl l j g) (hj : l.length ≤ j) : ∀ q, g q = none := by
  intro q
  cases hg : g q with
  | none => rfl
  | some v =>
    have e := h.val q v hg
    rw [e] at hg
    obtain ⟨_, z, hz, _⟩ := (h.iff q).1 hg
    rw [List.drop_eq_nil_of_le hj] at hz
    simp at hz
/-- An encoded path decodes to its path. -/
theorem GoodP.decode {p : ByteArray} (h : GoodP x p) (_hx : Wh.encErr x = 0) : Wh.decErrP x (Wh.encText x p) = 0 ∧ Wh.decText x (Wh.encText x p) = p :=
  Wh.dec_good (Wh.goodB_iff.2 ⟨h.path, h.enc, rfl⟩)
end
section
variable {P : Program} {k e t : TypeId} {w : World} {b : Nat} {key : ByteArray} {g : ByteArray → Option Value}
variable {ops : Array Oper} {rest : List Oper} {op : Oper} {a : Act} {Q : Exit → Act → World → Prop}
theorem wpList_delete_f (w : World) (h : MapF w b g) (hg : op.guard = none) (m x : Operand) (t k : TypeId) (hop : op.op = Op.call { callee := Callee.builtin Builtin.delete, args := #[m, x], argTypes := #[t, k] }) (hk : P.underlying k = some .string) (hs : key.size ≤ maxLen) (ht : P.underlying t = some (.map k e))
    (hm : a.eval m = .map (some b)) (hx : a.eval x = .string key)
    (hK : ∀ w', MapF w' b (upd g key none) → Kp (fun i => i = b) w w' → wpList P ops Q rest (a.put op.dst (.tuple #[])) w') : wpList P ops Q (op :: rest) a w :=
  wpList_plain hg fun _ hK' => wp_delete_f w h m x t k hop hk hs ht hm hx (fun w' h1 h2 => hK' _ _ (hK w' h1 h2))
theorem zeroBoolT (w : World) : (zeroValue 4).run Tryz.prog w = .ok (.bool false) w := by kernel_rfl
end
theorem MemT.ne_map {W : World} {B mb : Nat} {M : MB} {s : TSt} {g : ByteArray → Option Value} (hm : MemT W B M s) (hmp : MapF W mb g) (ho : ¬ s.F.own mb) : ∀ i, (MTf M s.F i ∨ i = M.cb) → i ≠ mb := by
  rintro i hi rfl
  obtain ⟨ca, hca, _⟩ := hm.ca
  obtain ⟨si, hsi, _⟩ := hm.si
  rcases hi with (e | e | e | e) | e
  · exact hm.box.ne_f hmp e.symm
  · exact hca.ne_f hmp e.symm
  · exact hsi.ne_f hmp e.symm
  · exact ho e
  · exact hm.clk.ne_f hmp e.symm
theorem MemT.ne_enc {W : World} {B eb : Nat} {M : MB} {s : TSt} {vs : Array Value} (hm : MemT W B M s) (hx : BoxIs W eb vs 24) : ¬ MTf M s.F eb := by
  obtain ⟨ca, hca, _⟩ := hm.ca
  obtain ⟨si, hsi, _⟩ := hm.si
  rintro (e | e | e | e)
  · exact hm.box.ne hx (by decide) e.symm
  · exact hca.ne hx (by decide) e.symm
  · exact hsi.ne hx (by decide) e.symm
  · exact hm.own_ne hx (by decide) e
end Go.Proofs.YtikegddlbelfaaaGreatDoor
