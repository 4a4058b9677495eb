/- A part that is filled has just these pairs: the plain law. What came in: two numbers in a box, pairs. Contracts of package slots: the document's Filled. Contracts of package slots: the document's Fill. What came in: a pair; how long answers are. 'slices.Collect' of numbers, against whatever iterator. Places: the iterator, and what is collected. Even places: what the functions of package spread compute, in numbers: no program in sight. Contracts of package spread, and of the document's answer for it. -/
import Derived.Test.YtiemfklonhlnnaaMai
set_option linter.unusedSimpArgs false
set_option linter.unusedVariables false
namespace Go.Proofs.Ytiemfklonhlnnaa.Slo
open Go.RowKit Go.Shelf Go.Sort Go.Proofs.Ytiemfklonhlnnaa Go.Proofs.Ytiemfklonhlnnaa.Occ Go.Proofs.Ytiemfklonhlnnaa.Frac

theorem sorted_ext : ∀ (a b : List Nat), a.Pairwise (· < ·) → b.Pairwise (· < ·) → (∀ i, i ∈ a ↔ i ∈ b) → a = b
  | [], [], _, _, _ => rfl
  | [], y :: b, _, _, h => by have := (h y).2 (List.mem_cons_self); simp at this
  | x :: a, [], _, _, h => by have := (h x).1 (List.mem_cons_self); simp at this
  | x :: a, y :: b, ha, hb, h => by
    obtain ⟨h1, ha'⟩ := List.pairwise_cons.1 ha
    obtain ⟨h2, hb'⟩ := List.pairwise_cons.1 hb
    have hxy : x = y := by
      rcases List.mem_cons.1 ((h x).1 List.mem_cons_self) with e | m
      · exact e
      · rcases List.mem_cons.1 ((h y).2 List.mem_cons_self) with e | m2
        · exact e.symm
        · have := h2 x m; have := h1 y m2; omega
    subst hxy
    rw [sorted_ext a b ha' hb' fun i => ?_]
    constructor
    · intro m
      rcases List.mem_cons.1 ((h i).1 (List.mem_cons_of_mem _ m)) with e | m2
      · have := h1 i m; omega
      · exact m2
    · intro m
      rcases List.mem_cons.1 ((h i).2 (List.mem_cons_of_mem _ m)) with e | m2
      · have := h2 i m; omega
      · exact m2
theorem occs_eq {ws : List Int} {f d : Nat} {L : List Nat} (hL : L.Pairwise (· < ·)) (hm : ∀ i, i ∈ L ↔ (f ≤ i ∧ i < f + d) ∧ occB ws i = true) : occs ws f d = L := by
  refine sorted_ext _ _ ?_ hL fun i => ?_
  · unfold occs
    exact List.Pairwise.filter _ List.pairwise_lt_range'
  · rw [hm i]
    unfold occs
    rw [List.mem_filter, List.mem_range'_1]

theorem clr_facts {s : Sl} {g q n f : Nat} (h : Is s g q n) : ∀ k, f + k ≤ n → (∀ i, occB (clrV s f k).ws i = if f ≤ i ∧ i < f + k then false else occB s.ws i) ∧ (∀ i, (i < f ∨ f + k ≤ i) → pairAt (clrV s f k) i = pairAt s i) ∧ (clrV s f k).laid = s.laid
  | 0, _ => ⟨fun i => by rw [if_neg (by omega)]; rfl, fun _ _ => rfl, rfl⟩
  | k + 1, hk => by
    obtain ⟨h1, h2, h3⟩ := clr_facts (f := f) h k (by omega)
    have H := h.clr k (f := f) (by omega)
    have hlt : f + k < (clrV s f k).ks.length := by rw [H.n]; omega
    refine ⟨fun i => ?_, fun i hi => ?_, h3⟩
    · show occB (takeV (clrV s f k) (f + k)).ws i = _
      rw [take_occ H.o H.u hlt, h1]
      by_cases e : i = f + k
      · rw [if_pos e, if_pos (by omega)]
      · rw [if_neg e]
        by_cases e2 : f ≤ i ∧ i < f + k
        · rw [if_pos e2, if_pos (by omega)]
        · rw [if_neg e2, if_neg (by omega)]
    · show pairAt (takeV (clrV s f k) (f + k)) i = _
      rw [pair_take H.o hlt, if_neg (by omega), h2 i (by omega)]

/-- Strictly rising. -/
def RisesV (xs : List Int) : Prop := ∀ j k, j < k → k < xs.length → xs.getD j 0 < xs.getD k 0
theorem rises_of {f t : Int} {xs : List Int} (h : partB f t xs = true) : RisesV xs := by
  intro j k hjk hk
  induction k with
  | zero => omega
  | succ k ih =>
    have h1 := (partB_iff.1 h (k + 1) hk).1
    simp only [prevV, Nat.add_sub_cancel, if_neg (Nat.succ_ne_zero k)] at h1
    rcases Nat.lt_or_ge j k with h2 | h2
    · have := ih h2 (by omega); omega
    · obtain rfl : j = k := by omega
      exact h1

theorem lay_facts {s : Sl} {g q n : Nat} (h : Is s g q n) {xs : List Int} {ps : List (Int × Int)} (hx : ∀ k, k < xs.length → 0 ≤ xs.getD k 0 ∧ xs.getD k 0 < n) (hr : RisesV xs) : ∀ k, k ≤ xs.length →
    (∀ j, j < k → occB (layL s xs ps k).ws (xs.getD j 0).toNat = true ∧ pairAt (layL s xs ps k) (xs.getD j 0).toNat = ps.getD j (0, 0)) ∧
    (∀ i : Nat, (∀ j, j < k → xs.getD j 0 ≠ i) → occB (layL s xs ps k).ws i = occB s.ws i ∧ pairAt (layL s xs ps k) i = pairAt s i) ∧ (layL s xs ps k).laid = IntKind.u64.wrap (s.laid + k)
  | 0, _ => ⟨fun j hj => by omega, fun _ _ => ⟨rfl, rfl⟩, by
      show s.laid = _
      rw [IntKind.wrap_u64]; have := h.l; omega⟩
  | k + 1, hk => by
    obtain ⟨h1, h2, h3⟩ := lay_facts h hx hr k (by omega) (ps := ps)
    have H := h.layL hx (ps := ps) k (by omega)
    have hxk := hx k (by omega)
    have hlt : (xs.getD k 0).toNat < (layL s xs ps k).ks.length := by rw [H.n]; omega
    have O := lay_occ H.o H.u hlt (ps.getD k (0, 0)).1 (ps.getD k (0, 0)).2
    have Q := pair_lay H.o H.u hlt (ps.getD k (0, 0)).1 (ps.getD k (0, 0)).2
    refine ⟨fun j hj => ?_, fun i hi => ?_, ?_⟩
    · show occB (layV (layL s xs ps k) _ _ _).ws _ = true ∧ pairAt (layV (layL s xs ps k) _ _ _) _ = _
      rw [O, Q]
      by_cases e : j = k
      · subst e; rw [if_pos rfl, if_pos rfl]; exact ⟨rfl, rfl⟩
      · have hlt2 := hr j k (by omega) (by omega)
        have hxj := hx j (by omega)
        have e2 : (xs.getD j 0).toNat ≠ (xs.getD k 0).toNat := by omega
        rw [if_neg e2, if_neg e2]; exact h1 j (by omega)
    · show occB (layV (layL s xs ps k) _ _ _).ws _ = _ ∧ pairAt (layV (layL s xs ps k) _ _ _) _ = _
      have e := hi k (by omega)
      have e2 : i ≠ (xs.getD k 0).toNat := by omega
      rw [O, Q, if_neg e2, if_neg e2]; exact h2 i fun j hj => hi j (by omega)
    · show IntKind.u64.wrap ((layL s xs ps k).laid + 1) = _
      rw [h3, IntKind.wrap_u64, IntKind.wrap_u64, IntKind.wrap_u64]; have := h.l; omega

/-- What the law asks of what was filled. -/
structure Whole (s : Sl) (f t : Int) (xs : List Int) (ps : List (Int × Int)) (X : Sl) : Prop where
  wx : X.Wf
  lk : X.ks.length = s.ks.length
  len : xs.length = ps.length
  pin : prsV X f t = (ps, 0)
  pa : prsV X 0 f = prsV s 0 f ∧ (prsV s 0 f).2 = 0
  pc : prsV X t X.ks.length = prsV s t s.ks.length ∧ (prsV s t s.ks.length).2 = 0
  at_ : ∀ k, k < xs.length → atV X (xs.getD k 0) = (ps.getD k (0, 0), 0)
  laid : X.laid = IntKind.u64.wrap (s.laid + ps.length)
  ck : chkS X = 0
theorem fillSV_no {s : Sl} {f t : Int} {xs : List Int} {ps : List (Int × Int)} (h : (fillSV s f t xs ps).2 ≠ 0) : (fillSV s f t xs ps).1 = noneS := by
  unfold fillSV at *
  split
  · rfl
  · split
    · rfl
    · rename_i h1 h2; rw [if_neg h1, if_neg h2] at h; exact absurd rfl h
theorem whole_of {s : Sl} {f t : Int} {xs : List Int} {ps : List (Int × Int)} (hu : U64 s.ws) (hl : 0 ≤ s.laid ∧ s.laid < 18446744073709551616) (h : (fillSV s f t xs ps).2 = 0) :
    ∃ X, fillSV s f t xs ps = (X, 0) ∧ Whole s f t xs ps X := by
  unfold fillSV at h ⊢
  by_cases h1 : askS s (inB s.ks.length f t) ≠ 0
  · rw [if_pos h1] at h; exact absurd h h1
  rw [if_neg h1] at h ⊢
  by_cases h2 : xs.length ≠ ps.length ∨ partB f t xs = false
  · rw [if_pos h2] at h; simp at h
  rw [if_neg h2]
  obtain ⟨hk, hin⟩ := askS_ok (Classical.not_not.1 h1)
  obtain ⟨h0, hft, htn⟩ := inB_iff.1 hin
  have hlen : xs.length = ps.length := Classical.not_not.1 fun e => h2 (.inl e)
  have hp : partB f t xs = true := by cases e : partB f t xs with
    | true => rfl
    | false => exact absurd (.inr e) h2
  obtain ⟨f, rfl⟩ := Int.eq_ofNat_of_zero_le h0
  obtain ⟨t, rfl⟩ := Int.eq_ofNat_of_zero_le (show 0 ≤ t by omega)
  obtain ⟨g, q, o⟩ := okS_iff.1 hk
  have I : Is s g q s.ks.length := ⟨o, hu, hl, rfl⟩
  have hft : f ≤ t := by omega
  have htn : t ≤ s.ks.length := by omega
  have IY := I.clr (f := f) (t - f) (by omega)
  obtain ⟨c1, c2, c3⟩ := clr_facts (f := f) I (t - f) (by omega)
  have hge := partB_ge hp
  have hlt : ∀ k, k < xs.length → xs.getD k 0 < (t : Int) := fun k hk => (partB_iff.1 hp k hk).2
  have hx : ∀ k, k < xs.length → 0 ≤ xs.getD k 0 ∧ xs.getD k 0 < (s.ks.length : Int) := fun k hk => by have := hge k hk; have := hlt k hk; omega
  have hr := rises_of hp
  have IX := IY.layL (ps := ps) hx xs.length (Nat.le_refl _)
  obtain ⟨d1, d2, d3⟩ := lay_facts IY (ps := ps) hx hr xs.length (Nat.le_refl _)
  simp only [Int.toNat_natCast]
  have eX : fillV s f t xs ps = layL (clrV s f (t - f)) xs ps xs.length := rfl
  rw [← eX] at IX d1 d2 d3
  generalize fillV s f t xs ps = X at *
  have lX := IX.n
  have out : ∀ i : Nat, (i < f ∨ t ≤ i) → occB X.ws i = occB s.ws i ∧ pairAt X i = pairAt s i := fun i hi => by
    obtain ⟨e1, e2⟩ := d2 i fun j hj => by have := hge j hj; have := hlt j hj; omega
    rw [e1, e2, c1, if_neg (by omega)]
    exact ⟨rfl, c2 i (by omega)⟩
  have hask : ∀ {Z : Sl} {b : Bool}, okS Z = true → b = true → askS Z b = 0 := fun hz hb => by rw [hb]; exact askS_in hz
  have oX := IX.o.ok
  have side : ∀ a d : Nat, (a + d ≤ f ∨ t ≤ a) → prs X a d = prs s a d := fun a d had => by
    unfold prs
    rw [occs_congr (ws := X.ws) (ws' := s.ws) fun i h3 h4 => (out i (by omega)).1]
    refine List.map_congr_left fun i hi => (out i ?_).2
    unfold occs at hi
    have := (List.mem_filter.1 hi).1
    rw [List.mem_range'_1] at this
    omega
  refine ⟨X, rfl, IX.o.wf IX.u IX.l, lX, hlen, ?_, ⟨?_, ?_⟩, ⟨?_, ?_⟩, ?_, ?_, ?_⟩
  · unfold prsV
    rw [if_pos (hask oX (by rw [lX]; exact inB_iff.2 (by omega)))]
    simp only [Int.toNat_natCast]
    rw [show ((t : Int) - (f : Int)).toNat = t - f by omega]
    have e : occs X.ws f (t - f) = (List.range xs.length).map fun j => (xs.getD j 0).toNat := by
      refine occs_eq ?_ fun i => ?_
      · rw [List.pairwise_map]
        refine List.Pairwise.imp_of_mem ?_ (List.pairwise_lt_range (n := xs.length))
        intro a b ha hb hab
        have := hr a b hab (List.mem_range.1 hb)
        have := hx a (List.mem_range.1 ha)
        omega
      · rw [List.mem_map]
        constructor
        · rintro ⟨j, hj, rfl⟩
          have hj := List.mem_range.1 hj
          have := hge j hj; have := hlt j hj
          exact ⟨by omega, (d1 j hj).1⟩
        · rintro ⟨hi, ho⟩
          refine Classical.byContradiction fun hno => ?_
          have := (d2 i fun j hj e => hno ⟨j, List.mem_range.2 hj, by omega⟩).1
          rw [c1, if_pos (by omega)] at this
          rw [this] at ho; cases ho
    unfold prs
    rw [e, List.map_map]
    congr 1
    refine List.ext_getElem? fun j => ?_
    by_cases hj : j < xs.length
    · have hj2 : j < ps.length := by omega
      simp [List.getElem?_map, List.getElem?_range, hj]
      have := (d1 j hj).2
      simp [List.getD_eq_getElem?_getD, hj, hj2] at this
      simp [List.getElem?_eq_getElem hj2, this]
    · rw [List.getElem?_eq_none (by simp; omega), List.getElem?_eq_none (by omega)]
  · unfold prsV
    rw [if_pos (hask oX (by rw [lX]; exact inB_iff.2 (by omega))), if_pos (hask hk (inB_iff.2 (by omega)))]
    rw [side _ _ (by omega)]
  · unfold prsV
    rw [if_pos (hask hk (inB_iff.2 (by omega)))]
  · unfold prsV
    rw [if_pos (hask oX (inB_iff.2 (by omega))), if_pos (hask hk (inB_iff.2 (by omega))), lX]
    rw [side _ _ (by omega)]
  · unfold prsV
    rw [if_pos (hask hk (inB_iff.2 (by omega)))]
  · intro k hk'
    obtain ⟨e1, e2⟩ := d1 k hk'
    have h3 := hx k hk'
    have e3 := atV_of oX (a := (xs.getD k 0).toNat) (by omega)
    rw [Int.toNat_of_nonneg h3.1, if_pos e1, e2] at e3
    exact e3
  · rw [d3, c3, hlen]
  · unfold chkS; rw [if_pos oX]
end Go.Proofs.Ytiemfklonhlnnaa.Slo

namespace Go.Proofs.Ytiemfklonhlnnaa.Slo
open Go.RowKit Go.Shelf Go.Sort Go.Proofs.Ytiemfklonhlnnaa Go.Proofs.Ytiemfklonhlnnaa.Occ Go.Proofs.Ytiemfklonhlnnaa.Frac

/-- Two numbers in a box. -/
def alloc2 (W : World) (a b : Int) : World := W.alloc (.cells #[.int .i64 a, .int .i64 b] 69)
theorem alloc2_fold (W : World) (a b : Int) : W.alloc (.cells #[.int .i64 a, .int .i64 b] 69) = alloc2 W a b := rfl
theorem alloc2_size (W : World) (a b : Int) : (alloc2 W a b).heap.size = W.heap.size + 1 := by simp [alloc2]
theorem alloc2_below (W : World) (a b : Int) : Below W.heap.size W (alloc2 W a b) := (Below.refl _ W).alloc (Nat.le_refl _) _
theorem alloc2_bp (W : World) (a b : Int) : BP (alloc2 W a b) W.heap.size a b := ⟨Res.new W a b _, by rw [alloc2_size]; omega⟩
/-- The two boxes. -/
def in2 (w : World) (s : Sl) (h : Hd) (a b : Int) : World := alloc2 (allocS w s h) a b
theorem in2_size (w : World) (s : Sl) (h : Hd) (a b : Int) : (in2 w s h a b).heap.size = w.heap.size + 2 := by simp [in2, alloc2_size, allocS_size]
theorem in2_below (w : World) (s : Sl) (h : Hd) (a b : Int) : Below w.heap.size w (in2 w s h a b) :=
  (allocS_below w s h).trans ((alloc2_below _ a b).mono (by rw [allocS_size]; omega))
theorem in2_bs (w : World) (s : Sl) (h : Hd) (a b : Int) : BS (in2 w s h a b) w.heap.size s h := (allocS_bs w s h).next (alloc2_below _ a b)
theorem in2_bp (w : World) (s : Sl) (h : Hd) (a b : Int) : BP (in2 w s h a b) (w.heap.size + 1) a b := by
  have := alloc2_bp (allocS w s h) a b
  rwa [allocS_size] at this
/-- What is told of pairs that came in. -/
structure ArgP (w : World) (a : Option Addr) (len cap : Nat) (ps : List (Int × Int)) : Prop where
  hlen : ps.length = len
  hrd : Rd2 w a ps
  hnil : a = Option.none → cap = 0
  hcap : len ≤ cap
  hbig : cap ≤ 9223372036854775807
theorem argP_of {w : World} {a : Option Addr} {len cap : Nat} {zs : List (Int × Int)} (h : Opn.IsRow2 w a len cap zs) : ArgP w a len cap zs := by
  obtain ⟨hl, h⟩ := h
  rcases h with ⟨rfl, rfl, rfl⟩ | ⟨x, rfl, hc, hm, hz⟩
  · exact ⟨hl, .inl (List.eq_nil_of_length_eq_zero hl), fun _ => rfl, Nat.le_refl _, by omega⟩
  · refine ⟨hl, ?_, (by intro h; cases h), hc, (by unfold maxLen at hm; omega)⟩
    rcases Nat.eq_zero_or_pos zs.length with h0 | h0
    · exact .inl (List.eq_nil_of_length_eq_zero h0)
    · right
      obtain ⟨b, o, s⟩ := x
      obtain rfl : s = Option.none := by simpa [Addr.add] using World.cell?_spot (hz 0 h0).1
      refine ⟨b, o, rfl, ?_, fun i hi => ?_⟩
      · exact World.block_lt_of_cell? w ⟨b, o, Option.none⟩ (by have := (hz 0 h0).1; rwa [Nat.zero_mul, Addr.add_lit, Nat.add_zero] at this)
      · have h1 := (hz i hi).1
        have h2 := (hz i hi).2.1
        rw [Addr.add_lit] at h1 h2
        rw [← Nat.add_assoc] at h2
        exact ⟨h1, h2⟩
end Go.Proofs.Ytiemfklonhlnnaa.Slo

namespace Go.Proofs.Ytiemfklonhlnnaa.Slo
open Go.RowKit Go.Shelf Go.Sort Go.Proofs.Ytiemfklonhlnnaa Go.Proofs.Ytiemfklonhlnnaa.Occ Go.Proofs.Ytiemfklonhlnnaa.Frac
attribute [local go_sem] Oper.semAt_some

theorem set_id {l : List Int} {i : Nat} {x : Int} (h : l.getD i 0 = x) (hi : i < l.length) : l.set i x = l := by
  subst h
  refine List.ext_getElem? fun j => ?_
  rw [List.getElem?_set]
  by_cases e : i = j
  · subst e; simp [hi, List.getD_eq_getElem?_getD]
  · simp [e]
theorem take_idle {s : Sl} {g q a : Nat} (o : Ok s g q) (hu : U64 s.ws) (ha : a < s.ks.length) (h : occB s.ws a = false) : takeV s a = s := by
  obtain ⟨z1, z2⟩ := o.blank a ha h
  have hw := putV_same hu h (o.in ha)
  have hk := set_id z1 ha
  have hv := set_id z2 (by rw [o.v]; exact ha)
  clear o hu
  obtain ⟨sg, ws, ks, vs, cs, ld⟩ := s
  unfold takeV
  dsimp only at *
  rw [hw, hk, hv, h]
  rfl
/-- One more pair is laid where there was none. -/
theorem layL_step {s : Sl} {g q n f t : Nat} (h : Is s g q n) (hft : f ≤ t) (htn : t ≤ n) {xs : List Int} {ps : List (Int × Int)} (hp : partB f t xs = true) {k : Nat} (hk : k < xs.length) :
    layL (clrV s f (t - f)) xs ps (k + 1) = setV (layL (clrV s f (t - f)) xs ps k) (xs.getD k 0).toNat (ps.getD k (0, 0)).1 (ps.getD k (0, 0)).2 ∧ occB (layL (clrV s f (t - f)) xs ps k).ws (xs.getD k 0).toNat = false := by
  have hx : ∀ k, k < xs.length → 0 ≤ xs.getD k 0 ∧ xs.getD k 0 < n := fun k hk => by
    have := partB_ge hp k hk; have := (partB_iff.1 hp k hk).2; omega
  have hr := rises_of hp
  have IY := h.clr (f := f) (t - f) (by omega)
  obtain ⟨c1, -, -⟩ := clr_facts (f := f) h (t - f) (by omega)
  have D := (lay_facts IY (ps := ps) hx hr k (by omega)).2.1 (xs.getD k 0).toNat (fun j hj => by have := hr j k hj hk; have := hx j (by omega); omega)
  have h1 := hx k hk
  have h2 := partB_ge hp k hk
  have h3 := (partB_iff.1 hp k hk).2
  have hf : occB (layL (clrV s f (t - f)) xs ps k).ws (xs.getD k 0).toNat = false := by rw [D.1, c1, if_pos (by omega)]
  have IX := IY.layL (ps := ps) hx k (by omega)
  refine ⟨?_, hf⟩
  show setV (takeV (layL (clrV s f (t - f)) xs ps k) _) _ _ _ = _
  rw [take_idle IX.o IX.u (by rw [IX.n]; omega) hf]
/-- What is known of a slot that is turned. -/
structure Rnd (T : Sl) (g A : Nat) : Prop where
  hk : A < T.ks.length
  hv : A < T.vs.length
  hc : A / g < T.cs.length
  seg : T.seg = (g : Int)
  cnt : 0 ≤ T.cs.getD (A / g) 0 ∧ T.cs.getD (A / g) 0 ≤ 64
  n1 : T.ks.length ≤ 65536
  u : U64 T.ws
  lw : T.ws.length ≤ 100000
  in_ : A < 64 * T.ws.length
  l : 0 ≤ T.laid ∧ T.laid < 18446744073709551616
def FilI (w wr : World) (S : Sl) : Prop := ∃ h2 : Hd, Brr wr (w.heap.size + 2) w.heap.size S h2 ∧ Below w.heap.size w wr ∧ BoxZ wr (w.heap.size + 1)
theorem Is.rnd {T : Sl} {g q n A : Nat} (i : Is T g q n) (h : A < n) : Rnd T g A := by
  have ha : A < T.ks.length := by rw [i.n]; exact h
  have c := i.o.count ha
  have W := i.o.wf i.u i.l
  exact ⟨ha, by rw [i.o.v]; exact ha, by rw [i.o.c]; exact (seg_of i.o.g4 i.o.n ha).1, i.o.seg, ⟨c.1, c.2.1⟩, i.o.n1, i.u, W.lw, i.o.in ha, i.l⟩
theorem Rd.cellAt {k : IntKind} {w w1 : World} {b o : Nat} {zs : List Int} {n i : Nat} (h : Rd k w (some ⟨b, o, Option.none⟩) zs) (hb : Below n w w1) (hn : w.heap.size ≤ n) (hi : i < zs.length) : w1.cell? ⟨b, o + i, Option.none⟩ = some (.int k (zs.getD i 0)) := by
  obtain ⟨b', o', e, c⟩ := Rd.at h hb hn hi
  cases e; exact c
theorem Rd2.cellAt {w w1 : World} {b o : Nat} {P : List (Int × Int)} {n i : Nat} (h : Rd2 w (some ⟨b, o, Option.none⟩) P) (hb : Below n w w1) (hn : w.heap.size ≤ n) (hi : i < P.length) :
    w1.cell? ⟨b, o + i * 2, Option.none⟩ = some (.int .i64 (P.getD i (0, 0)).1) ∧ w1.cell? ⟨b, o + i * 2 + 1, Option.none⟩ = some (.int .i64 (P.getD i (0, 0)).2) := by
  obtain ⟨b', o', e, c⟩ := Rd2.at h hb hn hi
  cases e; exact c

end Go.Proofs.Ytiemfklonhlnnaa.Slo

namespace Go.Proofs.Ytiemfklonhlnnaa.Slo
open Go.RowKit Go.Shelf Go.Sort Go.Proofs.Ytiemfklonhlnnaa Go.Proofs.Ytiemfklonhlnnaa.Occ Go.Proofs.Ytiemfklonhlnnaa.Frac
attribute [local go_sem] Oper.semAt_some

/-- A part that may be filled, as the document tells it. -/
theorem partB_ends {f t : Int} {xs : List Int} : partB f t xs = true ↔ risesB xs = true ∧ (0 < xs.length → f ≤ xs.getD 0 0 ∧ xs.getD (xs.length - 1) 0 < t) := by
  constructor
  · intro h
    have hr := rises_of h
    refine ⟨risesB_iff.2 fun i hi => hr i (i + 1) (by omega) hi, fun hl => ⟨partB_ge h 0 hl, (partB_iff.1 h (xs.length - 1) (by omega)).2⟩⟩
  · rintro ⟨h1, h2⟩
    have hr : ∀ j k, j < k → k < xs.length → xs.getD j 0 < xs.getD k 0 := by
      intro j k hjk hk
      induction k with
      | zero => omega
      | succ k ih =>
        have h3 := risesB_iff.1 h1 k hk
        rcases Nat.lt_or_ge j k with h | h
        · have := ih h (by omega); omega
        · obtain rfl : j = k := by omega
          exact h3
    refine partB_iff.2 fun k hk => ?_
    obtain ⟨h3, h4⟩ := h2 (by omega)
    constructor
    · unfold prevV
      by_cases e : k = 0
      · subst e; rw [if_pos rfl]; omega
      · rw [if_neg e]; exact hr (k - 1) k (by omega) hk
    · by_cases e : k = xs.length - 1
      · rw [e]; exact h4
      · have := hr k (xs.length - 1) (by omega) (by omega); omega

end Go.Proofs.Ytiemfklonhlnnaa.Slo

namespace Go.Proofs.Ytiemfklonhlnnaa.Slo
open Go.RowKit Go.Shelf Go.Sort Go.Proofs.Ytiemfklonhlnnaa Go.Proofs.Ytiemfklonhlnnaa.Occ Go.Proofs.Ytiemfklonhlnnaa.Frac

/-- A pair as it comes in. -/
structure Pr where
  k : Int
  v : Int
def Pr.val (p : Pr) : Value := .agg #[.int .i64 p.k, .int .i64 p.v]
structure Pr.Ok (p : Pr) : Prop where
  wk : (Lit.int .i64 p.k).wf = true
  wv : (Lit.int .i64 p.v).wf = true
/-- The two boxes. -/
def inP (w : World) (s : Sl) (h : Hd) (a b : Int) : World := allocP (allocS w s h) a b
theorem inP_below (w : World) (s : Sl) (h : Hd) (a b : Int) : Below w.heap.size w (inP w s h a b) :=
  (allocS_below w s h).trans ((allocP_below _ a b).mono (by rw [allocS_size]; omega))
theorem inP_bs (w : World) (s : Sl) (h : Hd) (a b : Int) : BS (inP w s h a b) w.heap.size s h := (allocS_bs w s h).next (allocP_below _ a b)
theorem inP_bp (w : World) (s : Sl) (h : Hd) (a b : Int) : BP (inP w s h a b) (w.heap.size + 1) a b := by
  have := allocP_bp (allocS w s h) a b
  rwa [allocS_size] at this
/-- No longer than another. -/
structure LenLe (x s : Sl) : Prop where
  w : x.ws.length ≤ s.ws.length
  k : x.ks.length ≤ s.ks.length
  v : x.vs.length ≤ s.vs.length
  c : x.cs.length ≤ s.cs.length
theorem LenLe.refl (s : Sl) : LenLe s s := ⟨Nat.le_refl _, Nat.le_refl _, Nat.le_refl _, Nat.le_refl _⟩
theorem LenLe.trans {a b c : Sl} (h : LenLe a b) (k : LenLe b c) : LenLe a c := ⟨Nat.le_trans h.w k.w, Nat.le_trans h.k k.k, Nat.le_trans h.v k.v, Nat.le_trans h.c k.c⟩
theorem lenLe_none (s : Sl) : LenLe noneS s := ⟨Nat.zero_le _, Nat.zero_le _, Nat.zero_le _, Nat.zero_le _⟩
theorem lenLe_take (s : Sl) (a : Nat) : LenLe (takeV s a) s := by
  refine ⟨?_, ?_, ?_, ?_⟩ <;> unfold takeV <;> dsimp only
  · rw [putV_length]; exact Nat.le_refl _
  · rw [List.length_set]; exact Nat.le_refl _
  · rw [List.length_set]; exact Nat.le_refl _
  · split
    · rw [List.length_set]; exact Nat.le_refl _
    · exact Nat.le_refl _
theorem lenLe_set (s : Sl) (a : Nat) (x y : Int) : LenLe (setV s a x y) s := by
  refine ⟨?_, ?_, ?_, ?_⟩ <;> unfold setV <;> dsimp only
  · rw [putV_length]; exact Nat.le_refl _
  · rw [List.length_set]; exact Nat.le_refl _
  · rw [List.length_set]; exact Nat.le_refl _
  · rw [List.length_set]; exact Nat.le_refl _
theorem lenLe_lay (s : Sl) (a : Nat) (x y : Int) : LenLe (layV s a x y) s := (lenLe_set _ a x y).trans (lenLe_take s a)
theorem lenLe_clr (s : Sl) (f : Nat) : ∀ k, LenLe (clrV s f k) s
  | 0 => LenLe.refl s
  | k + 1 => (lenLe_take _ _).trans (lenLe_clr s f k)
theorem lenLe_layL (s : Sl) (xs : List Int) (ps : List (Int × Int)) : ∀ k, LenLe (layL s xs ps k) s
  | 0 => LenLe.refl s
  | k + 1 => (lenLe_lay _ _ _ _).trans (lenLe_layL s xs ps k)
theorem lenLe_fill (s : Sl) (f t : Nat) (xs : List Int) (ps : List (Int × Int)) : LenLe (fillV s f t xs ps) s := (lenLe_layL _ xs ps _).trans (lenLe_clr s f _)
theorem lenLe_laySV (s : Sl) (a x y : Int) : LenLe (laySV s a x y).1 s := by
  unfold laySV; split
  · exact lenLe_lay _ _ _ _
  · exact lenLe_none s
theorem lenLe_clearSV (s : Sl) (a : Int) : LenLe (clearSV s a).1 s := by
  unfold clearSV; split <;> first | exact lenLe_take _ _ | exact lenLe_none s
theorem lenLe_moveSV (s : Sl) (a b : Int) : LenLe (moveSV s a b).1 s := by
  unfold moveSV; split
  · exact lenLe_none s
  · split
    · exact lenLe_none s
    · split
      · exact lenLe_none s
      · exact (lenLe_lay _ _ _ _).trans (lenLe_take _ _)
theorem lenLe_fillSV (s : Sl) (f t : Int) (xs : List Int) (ps : List (Int × Int)) : LenLe (fillSV s f t xs ps).1 s := by
  unfold fillSV; split
  · exact lenLe_none s
  · split
    · exact lenLe_none s
    · exact lenLe_fill _ _ _ _ _
end Go.Proofs.Ytiemfklonhlnnaa.Slo

namespace Go.Proofs.Ytiemfklonhlnnaa
open Go.RowKit Go.Shelf
attribute [local go_sem] Oper.semAt_some

theorem infoIc : (Try.prog.info? 3).map (fun i => (i.zero, i.size, i.bytes)) = some (some (.int .i64 0), 1, 8) := by kernel_rfl

set_option maxRecDepth 100000 in
set_option maxHeartbeats 2000000 in
theorem appendSeq_ints (g : Nat) (lb : Array Value) (eg : ∀ args w, (callFunc g args).run Try.prog w = .ok (.enter g args) w) (n0 lo hi N : Nat) (S Sp : List Int → Prop) (w : World) (hn0 : n0 ≤ w.heap.size) (hhi : hi ≤ w.heap.size) (hN : N ≤ 1000000)
    (hseq : SeqStopsK Fence.wide 1 Try.prog g lb (fun x : Int => #[Value.int .i64 x]) (Keeps n0 lo hi) S Sp N w) :
    Calls Try.prog 74 #[.slice Option.none 0 0, .func (.func g) #[] lb] w fun e w' => ∃ v xs, e = .returned v ∧ S xs ∧ w'.ownsRow w.heap.size 3 1 v xs.length (xs.map (Value.int .i64)) ∧ Below w.heap.size w w' := by
  obtain ⟨i0, hi', hz0, hz1, hz2⟩ := info_parts infoIc
  refine (callsIn_wide (n := 2)).1 ?_
  refine callsIn_of_wp_marks Try.func74 rfl trivial ?_ rfl
  simp only [Try.ntmps74, List.size_toArray, List.length_cons, List.length_nil, Nat.reduceAdd, Nat.reduceSub, Array.replicate_succ, Array.replicate_zero, List.push_toArray, List.append_toArray, List.nil_append, List.cons_append]
  gi_wp2
  have bO := Boxed.new w 26 (.slice Option.none 0 0)
  have hB0 : Below w.heap.size w (w.alloc (.cells #[.slice Option.none 0 0] 26)) := (Below.refl _ w).alloc (Nat.le_refl _) _
  refine wpIn_rangeFunc_ownG rfl (by decide) (gf := g) (lb := lb) rfl trivial eg
    hseq Keeps.t (Keeps.b (by simp; omega) (by simp; omega)) hB0 (fun _ => rfl)
    (fun pre W => (∃ v, Boxed W w.heap.size 26 v ∧ W.ownsRow w.heap.size 3 1 v pre.length (pre.map (Value.int .i64)) ∧ True) ∧ Below w.heap.size w W)
    (fun _ _ _ => False)
    (OwnFrom.and (Own.from (holdsRow_own w.heap.size w.heap.size 26 3 1 (fun pre : List Int => pre.length) (fun pre => pre.map (Value.int .i64)) (fun _ _ => True)) _) (ownFrom_below (Nat.le_refl _) (by simp)))
    (fun _ _ _ _ _ hs _ _ => hs)
    ⟨⟨_, bO, World.ownsRow_nil _ _ _ _, trivial⟩, hB0⟩
    (fun x => { tmps := #[.slice Option.none 0 0, .func (.func g) #[] lb, .pointer (some ⟨w.heap.size, 0, Option.none⟩), undef, .slice Option.none 0 0, .int .i64 x, .func (.func g) #[] lb, .int .i64 x, undef, undef, undef, undef, undef], defers := [] }) ?assign ?body ?done ?stop
  case assign =>
    intro l x W K hK
    gi_wp2
    exact hK
  case body =>
    rintro l pre x W ⟨⟨v, hv, hrow, -⟩, hB⟩ hlt
    have hc := hv.cell
    gi_wp2_with (gi_at_builtin; refine wpListIn_append_own _ rfl _ _ 26 rfl w.heap.size 3 i0 (.int .i64 0) 1 8 Try.underlying26 hi' hz0 hz1 hz2 rfl (by decide) _ _ _ rfl (hrow.alloc _) ⟨W.heap.size, 0, Option.none⟩ 1 1 [.int .i64 x] rfl rfl (cell_one_new _ _ _) (by simp [Value.oneCell']) (by unfold maxLen; omega) (by omega) (by have := hB.size; simp; omega) ?_; intro v' w1 hown' hgrow _; obtain ⟨g', cap', rfl⟩ := ownsRow_succ hown'; obtain ⟨hv1, hv2, hr2, hk2, hb2⟩ := hv.appended (by decide) hrow hB.size (Nat.le_refl _) hown' hgrow; have hc1 := hv1.cell; have hf1 := hv1.frozen)
    exact ⟨hk2.from _, Keeps.of_below hb2 hn0 hhi, ⟨_, hv2, by simpa using hr2, trivial⟩, hB.trans hb2⟩
  case done =>
    rintro D ys W hD hS ⟨⟨v, hv, hrow, -⟩, hB⟩ hK
    have hc := hv.cell
    gi_wp2
    refine ⟨by simp, .inl ⟨_, _, rfl, run_takeDeferred hK, ?_⟩⟩
    exact ⟨_, results_tmp rfl _ _ _, v, ys, rfl, hS, ownsRow_putObj hrow _ hK rfl, hB.trans (belowK_b (w := w) (Nat.le_refl _) W D _ _ (by simp at hD; omega) hK rfl rfl)⟩
  case stop =>
    rintro D c pre W _ _ h _
    exact h.elim

set_option maxHeartbeats 1000000 in
theorem collect_ints (g : Nat) (lb : Array Value) (eg : ∀ args w, (callFunc g args).run Try.prog w = .ok (.enter g args) w) (n0 lo hi N : Nat) (S Sp : List Int → Prop) (w : World) (hn0 : n0 ≤ w.heap.size) (hhi : hi ≤ w.heap.size) (hN : N ≤ 1000000)
    (hseq : SeqStopsK Fence.wide 1 Try.prog g lb (fun x : Int => #[Value.int .i64 x]) (Keeps n0 lo hi) S Sp N w) :
    Calls Try.prog 69 #[.func (.func g) #[] lb] w fun e w' => ∃ v xs, e = .returned v ∧ S xs ∧ w'.ownsRow w.heap.size 3 1 v xs.length (xs.map (Value.int .i64)) ∧ Below w.heap.size w w' := by
  go_enter Try.func69, Try.ntmps69
  go_wp2_with fail
  refine (appendSeq_ints g lb eg n0 lo hi N S Sp w hn0 hhi hN hseq).mono ?_
  rintro e w1 ⟨v, xs, rfl, hS, hrow, hb⟩
  have HR := Lib.hid hrow
  clear hrow
  go_wp2
  go_ret
  exact ⟨v, xs, rfl, hS, HR.out, hb⟩
end Go.Proofs.Ytiemfklonhlnnaa

namespace Go.Proofs.Ytiemfklonhlnnaa.Spr
open Go.RowKit Go.Shelf Go.Proofs.Ytiemfklonhlnnaa
attribute [local go_sem] Oper.semAt_some

theorem mixed : Try.prog.follows .mixedOrders = true := by kernel_rfl

/-- The place of a thing. -/
def place (n f d i : Nat) : Nat := f + i * d / n
def placesL (n f d : Nat) : List Int := upto (fun i => ((place n f d i : Nat) : Int)) n

set_option maxRecDepth 100000 in
set_option maxHeartbeats 2000000 in
theorem places1_in (m l Bn Bf Bt n0 lo hi n f t d : Nat) (hd : t = f + d) (ht : t ≤ 65536) (hnd : n ≤ d) (b1 : lo ≤ Bn ∧ Bn < hi) (b2 : lo ≤ Bf ∧ Bf < hi) (b3 : lo ≤ Bt ∧ Bt < hi) (J Jx : List Int → World → Prop) (hJd : ∀ pre W, J pre W → J pre W.drew)
    (hY : ∀ pre x W, J pre W → pre.length < n → YieldAt Fence.wide (m - 1) Try.prog l #[.int .i64 x] W fun e W' =>
      (e = .returned (.bool true) ∧ J (pre ++ [x]) W' ∧ Keeps n0 lo hi W W') ∨ (e = .returned (.bool false) ∧ Jx (pre ++ [x]) W'))
    (W : World) (hcn : W.cell? ⟨Bn, 0, Option.none⟩ = some (.int .i64 n)) (hcf : W.cell? ⟨Bf, 0, Option.none⟩ = some (.int .i64 f)) (hct : W.cell? ⟨Bt, 0, Option.none⟩ = some (.int .i64 t)) (h0 : J [] W) :
    CallsIn Fence.wide m Try.prog 75 #[.func (.yield l) #[] #[], .pointer (some ⟨Bn, 0, Option.none⟩), .pointer (some ⟨Bf, 0, Option.none⟩), .pointer (some ⟨Bt, 0, Option.none⟩)] W fun e W' => (∃ v, e = .returned v) ∧
      ((∃ ys, ys = placesL n f d ∧ J ys W') ∨ (∃ pre, pre <+: placesL n f d ∧ Jx pre W')) := by
  have hdi : (t : Int) - (f : Int) = (d : Int) := by omega
  have HD := Lib.hid hd
  clear hd
  refine callsIn_of_wp Try.func75 rfl trivial ?_ rfl
  simp only [Try.ntmps75, List.size_toArray, List.length_cons, List.length_nil, Nat.reduceAdd, Nat.reduceSub, Array.replicate_succ, Array.replicate_zero, List.push_toArray, List.append_toArray, List.nil_append, List.cons_append]
  gi_wp2
  gi_loopw [7] (fun i wr => ∃ k : Nat, k ≤ n ∧ i = .int .i64 k ∧ J (upto (fun i => ((place n f d i : Nat) : Int)) k) wr ∧ (∀ b o, lo ≤ b → b < hi → wr.cell? ⟨b, o, Option.none⟩ = W.cell? ⟨b, o, Option.none⟩)) (fun i _ => n - (intOf i).toNat)
  case atStart => exact ⟨0, Nat.zero_le _, rfl, h0, fun _ _ _ _ => rfl⟩
  case round =>
    obtain ⟨k, hk, rfl, hJs, hsame⟩ := hrel
    by_cases hlt : k < n
    · have c1 := (hsame Bn 0 b1.1 b1.2).trans hcn
      have c2 := (hsame Bf 0 b2.1 b2.2).trans hcf
      have c3 := (hsame Bt 0 b3.1 b3.2).trans hct
      have HS := Lib.hid hsame
      have p0 : 0 ≤ (k : Int) * (d : Int) := Int.mul_nonneg (by omega) (by omega)
      have p1 : (k : Int) * (d : Int) ≤ 65536 * 65536 := Int.mul_le_mul (by omega) (by omega) (by omega) (by omega)
      have hq : (k : Int) * (d : Int) / (n : Int) = ((k * d / n : Nat) : Int) := by simp
      have hq1 : k * d / n ≤ 65536 * 65536 := Nat.le_trans (Nat.div_le_self _ _) (by have : ((k * d : Nat) : Int) = (k : Int) * (d : Int) := by simp
                                                                                     omega)
      obtain ⟨fn, tmps, assign, body, hy, hR⟩ := hY _ ((place n f d k : Nat) : Int) wr.drew (hJd _ _ hJs) (by rw [upto_length]; exact hlt)
      have hpl : ((place n f d k : Nat) : Int) = (f : Int) + ((k * d / n : Nat) : Int) := by unfold place; omega
      rw [hpl] at hy
      have HP := Lib.hid hpl
      have w1 : IntKind.i64.wrap (d : Int) = (d : Int) := by rw [IntKind.wrap_i64]; omega
      have w2 : IntKind.i64.wrap ((k : Int) * (d : Int)) = (k : Int) * (d : Int) := by rw [IntKind.wrap_i64]; omega
      have w3 : ((k : Int) * (d : Int)).tdiv (n : Int) = ((k * d / n : Nat) : Int) := by rw [Int.tdiv_eq_ediv_of_nonneg p0]; exact hq
      have w4 : IntKind.i64.wrap ((k * d / n : Nat) : Int) = ((k * d / n : Nat) : Int) := by rw [IntKind.wrap_i64]; omega
      have w5 : IntKind.i64.wrap ((f : Int) + ((k * d / n : Nat) : Int)) = (f : Int) + ((k * d / n : Nat) : Int) := by rw [IntKind.wrap_i64]; omega
      have n0 : ((n : Int) == 0) = false := by rw [beq_eq_false_iff_ne]; omega
      have n1 : (n : Int) ≠ 0 := by omega
      have n2 : n ≠ 0 := by omega
      clear hpl hsame hq
      generalize k * d / n = q at *
      gi_wp2
      refine wpIn_region_still_tail 10 mixed (by kernel_rfl) ?_
      simp only [List.take_succ_cons, List.take_zero, List.drop_succ_cons, List.drop_zero]
      repeat still_step
      refine wpStill_nil ?_
      gi_wp2
      refine ⟨fun h => (by cases h), hR.mono ?_⟩
      rintro e W3 (⟨rfl, hJ3, hk3⟩ | ⟨rfl, hJx3⟩)
      · gi_wp2
        go_roundw
        case rel => exact ⟨k + 1, by omega, by go_num, by rw [upto_succ]; exact hJ3, fun b o h1 h2 => (hk3.cell h1 h2).trans (HS.out b o h1 h2)⟩
        case measure => simp [intOf]; omega
      · gi_wp2
        refine bodyPost_ret (results_none rfl _ _ _) rfl ?_
        exact ⟨⟨_, rfl⟩, .inr ⟨_, upto_prefix _ (show k + 1 ≤ n by omega), by rw [upto_succ]; exact hJx3⟩⟩
    · obtain rfl : k = n := by omega
      clear hsame
      gi_wp2
      go_end0
      exact ⟨⟨_, rfl⟩, .inl ⟨_, rfl, hJs⟩⟩

theorem placesL_length (n f d : Nat) : (placesL n f d).length = n := upto_length _ _

/-- The world behind it. -/
def boxed (w : World) (n f t : Int) : World := ((w.alloc (.cells #[.int .i64 n] 3)).alloc (.cells #[.int .i64 f] 3)).alloc (.cells #[.int .i64 t] 3)
set_option maxHeartbeats 1000000 in
/-- The iterator's value: three boxes. -/
theorem places_any (n f t : Int) (w : World) :
    Calls Try.prog 70 #[.int .i64 n, .int .i64 f, .int .i64 t] w fun e w' => e = .returned (.func (.func 75) #[] #[.pointer (some ⟨w.heap.size, 0, Option.none⟩), .pointer (some ⟨w.heap.size + 1, 0, Option.none⟩), .pointer (some ⟨w.heap.size + 2, 0, Option.none⟩)]) ∧
      boxed w n f t = w' := by
  go_enter Try.func70, Try.ntmps70
  go_wp2
  go_ret
  exact ⟨rfl, rfl⟩

theorem boxed_size (w : World) (n f t : Int) : (boxed w n f t).heap.size = w.heap.size + 3 := by simp [boxed]
theorem boxed_below (w : World) (n f t : Int) : Below w.heap.size w (boxed w n f t) := (((Below.refl _ w).alloc (Nat.le_refl _) _).alloc (by simp) _).alloc (by simp; omega) _
theorem boxed_cells (w : World) (n f t : Int) : (boxed w n f t).cell? ⟨w.heap.size, 0, Option.none⟩ = some (.int .i64 n) ∧ (boxed w n f t).cell? ⟨w.heap.size + 1, 0, Option.none⟩ = some (.int .i64 f) ∧ (boxed w n f t).cell? ⟨w.heap.size + 2, 0, Option.none⟩ = some (.int .i64 t) := by
  have a1 := Boxed.new w 3 (.int .i64 n)
  have a2 := Boxed.new (w.alloc (.cells #[.int .i64 n] 3)) 3 (.int .i64 f)
  have a3 := Boxed.new ((w.alloc (.cells #[.int .i64 n] 3)).alloc (.cells #[.int .i64 f] 3)) 3 (.int .i64 t)
  simp only [World.size_alloc] at a2 a3
  exact ⟨((a1.alloc _).alloc _).cell, (a2.alloc _).cell, a3.cell⟩

/-- The places come one behind the other; or a part of them, a round having said 'no more'. -/
theorem places_stops (m n0 n f t d : Nat) (w : World) (hd : t = f + d) (ht : t ≤ 65536) (hnd : n ≤ d) :
    SeqStopsK Fence.wide m Try.prog 75 #[.pointer (some ⟨w.heap.size, 0, Option.none⟩), .pointer (some ⟨w.heap.size + 1, 0, Option.none⟩), .pointer (some ⟨w.heap.size + 2, 0, Option.none⟩)] (fun x : Int => #[Value.int .i64 x]) (Keeps n0 w.heap.size (w.heap.size + 3)) (fun ys => ys = placesL n f d) (fun pre => pre <+: placesL n f d) n (boxed w n f t) := fun l J Jx W hW hJ _ hY h0 => by
  obtain ⟨c1, c2, c3⟩ := boxed_cells w n f t
  have hs := boxed_size w n f t
  exact places1_in m l _ _ _ n0 w.heap.size (w.heap.size + 3) n f t d hd ht hnd (by omega) (by omega) (by omega) J Jx (fun pre W h => hJ pre W W.drew Option.none h ⟨rfl, rfl, rfl, Nat.le_refl _, fun _ _ _ => rfl⟩ (fun r e => by cases e)) hY W ((hW.cell (p := ⟨w.heap.size, 0, Option.none⟩) (by show w.heap.size < _; omega)).trans c1) ((hW.cell (p := ⟨w.heap.size + 1, 0, Option.none⟩) (by show w.heap.size + 1 < _; omega)).trans c2) ((hW.cell (p := ⟨w.heap.size + 2, 0, Option.none⟩) (by show w.heap.size + 2 < _; omega)).trans c3) h0

end Go.Proofs.Ytiemfklonhlnnaa.Spr

namespace Go.Proofs.Ytiemfklonhlnnaa.Spr

def mayB (n f t : Int) : Bool := decide (0 ≤ f) && decide (f ≤ t) && decide (t ≤ 65536) && decide (0 ≤ n) && decide (n ≤ t - f)
theorem mayB_iff {n f t : Int} : mayB n f t = true ↔ 0 ≤ f ∧ f ≤ t ∧ t ≤ 65536 ∧ 0 ≤ n ∧ n ≤ t - f := by
  unfold mayB; simp only [Bool.and_eq_true, decide_eq_true_eq]; omega
theorem mayB_false {n f t : Int} (h : ¬ (0 ≤ f ∧ f ≤ t ∧ t ≤ 65536 ∧ 0 ≤ n ∧ n ≤ t - f)) : mayB n f t = false := by
  rw [Bool.eq_false_iff]; exact fun g => h (mayB_iff.1 g)

/-- How many of n numbers i have i * d / n below y. -/
def cnt (n d y : Nat) : Nat := (List.range n).countP (fun i => decide (i * d / n < y))
theorem add_div_le (a b : Nat) {c : Nat} (hc : 0 < c) : a / c + b / c ≤ (a + b) / c := by
  rw [Nat.le_div_iff_mul_le hc, Nat.add_mul]
  have := Nat.div_mul_le_self a c
  have := Nat.div_mul_le_self b c
  omega
def ceilD (a b : Nat) : Nat := (a + b - 1) / b

theorem lt_ceilD (i a b : Nat) (hb : 0 < b) : i < ceilD a b ↔ i * b < a := by
  unfold ceilD
  rw [Nat.lt_iff_add_one_le, Nat.le_div_iff_mul_le hb, Nat.add_mul]
  omega
theorem countP_lt (n c : Nat) : (List.range n).countP (fun i => decide (i < c)) = min n c := by
  induction n with
  | zero => simp
  | succ n ih =>
    rw [List.range_succ, List.countP_append, ih]
    by_cases h : n < c
    · simp [h]; omega
    · simp [h]; omega
theorem cnt_min (n d y : Nat) (hd : 0 < d) : cnt n d y = min n (ceilD (y * n) d) := by
  rw [← countP_lt]
  unfold cnt
  apply List.countP_congr
  intro i hi
  have hn : 0 < n := by have := List.mem_range.1 hi; omega
  rw [decide_eq_true_eq, decide_eq_true_eq, lt_ceilD _ _ _ hd, Nat.div_lt_iff_lt_mul hn]
theorem ceilD_le (a b c : Nat) (hb : 0 < b) (h : a ≤ c * b) : ceilD a b ≤ c := by
  rcases Nat.lt_or_ge c (ceilD a b) with g | g
  · rw [lt_ceilD _ _ _ hb] at g; omega
  · exact g
/-- Of equal parts. -/
theorem cnt_part (n parts w j : Nat) (hp : 0 < parts) (hw : 0 < w) (hj : j ≤ parts) : cnt n (parts * w) (j * w) = ceilD (j * n) parts := by
  have hd : 0 < parts * w := Nat.mul_pos hp hw
  rw [cnt_min _ _ _ hd]
  have e : ceilD (j * w * n) (parts * w) = ceilD (j * n) parts := by
    have key : ∀ i, i < ceilD (j * w * n) (parts * w) ↔ i < ceilD (j * n) parts := fun i => by
      rw [lt_ceilD _ _ _ hd, lt_ceilD _ _ _ hp, ← Nat.mul_assoc, Nat.mul_right_comm j w n]
      exact ⟨fun h => Nat.lt_of_mul_lt_mul_right h, fun h => Nat.mul_lt_mul_of_pos_right h hw⟩
    have h1 := key (ceilD (j * w * n) (parts * w))
    have h2 := key (ceilD (j * n) parts)
    omega
  rw [e]
  have := ceilD_le (j * n) parts n hp (by rw [Nat.mul_comm n]; exact Nat.mul_le_mul_right _ hj)
  omega
theorem ceilD_full (n parts : Nat) (hp : 0 < parts) : ceilD (parts * n) parts = n := by
  have key : ∀ i, i < ceilD (parts * n) parts ↔ i < n := fun i => by
    rw [lt_ceilD _ _ _ hp, Nat.mul_comm parts]
    exact ⟨fun h => Nat.lt_of_mul_lt_mul_right h, fun h => Nat.mul_lt_mul_of_pos_right h hp⟩
  have h1 := key (ceilD (parts * n) parts)
  have h2 := key n
  omega
theorem ceilD_zero (b : Nat) (hb : 0 < b) : ceilD 0 b = 0 := by
  unfold ceilD; rw [Nat.zero_add]; exact Nat.div_eq_of_lt (by omega)
theorem ceilD_mono {a a' b : Nat} (h : a ≤ a') : ceilD a b ≤ ceilD a' b := Nat.div_le_div_right (by omega)
/-- A part's share is rounded down or up. -/
theorem share_bounds (n parts k : Nat) (hp : 0 < parts) : n / parts ≤ ceilD ((k + 1) * n) parts - ceilD (k * n) parts ∧ ceilD ((k + 1) * n) parts - ceilD (k * n) parts ≤ ceilD n parts := by
  have hm := ceilD_mono (b := parts) (show k * n ≤ (k + 1) * n from Nat.mul_le_mul_right _ (by omega))
  constructor
  · have : ceilD (k * n) parts + n / parts ≤ ceilD ((k + 1) * n) parts := by
      unfold ceilD
      rw [Nat.add_mul, Nat.one_mul, show k * n + n + parts - 1 = (k * n + parts - 1) + n by omega]
      exact add_div_le _ _ hp
    omega
  · have : ceilD ((k + 1) * n) parts ≤ ceilD (k * n) parts + ceilD n parts := by
      refine ceilD_le _ _ _ hp ?_
      have g : ∀ a, a ≤ ceilD a parts * parts := fun a => by
        rcases Nat.lt_or_ge (ceilD a parts * parts) a with h | h
        · rw [← lt_ceilD _ _ _ hp] at h; omega
        · exact h
      have h1 := g (k * n)
      have h2 := g n
      rw [Nat.add_mul, Nat.add_mul]
      omega
    omega

/-! ### Neighbours -/
theorem step_bounds (d n i : Nat) (hn : 0 < n) : i * d / n + d / n ≤ (i + 1) * d / n ∧ (i + 1) * d / n ≤ i * d / n + (d + n - 1) / n := by
  constructor
  · rw [Nat.add_mul, Nat.one_mul]; exact add_div_le _ _ hn
  · rw [Nat.add_mul, Nat.one_mul]
    have h1 : i * d < (i * d / n + 1) * n := by rw [Nat.add_mul, Nat.one_mul]; have := Nat.div_add_mod (i * d) n; have := Nat.mod_lt (i * d) hn; rw [Nat.mul_comm n] at *; omega
    have h2 : d ≤ (d + n - 1) / n * n := by
      rcases Nat.lt_or_ge ((d + n - 1) / n * n) d with h | h
      · rw [show (d + n - 1) / n = ceilD d n from rfl, ← lt_ceilD _ _ _ hn] at h
        exact absurd h (Nat.lt_irrefl _)
      · exact h
    have h3 : (i * d + d) / n < i * d / n + 1 + (d + n - 1) / n := by
      rw [Nat.div_lt_iff_lt_mul hn, Nat.add_mul]
      omega
    omega
theorem place_mono {d n i j : Nat} (h : i ≤ j) : i * d / n ≤ j * d / n := Nat.div_le_div_right (Nat.mul_le_mul_right _ h)
theorem last_place (d n : Nat) (hn : 0 < n) : n * d / n = d := Nat.mul_div_cancel_left _ hn

end Go.Proofs.Ytiemfklonhlnnaa.Spr

namespace Go.Proofs.Ytiemfklonhlnnaa.Spr
open Go.RowKit Go.Shelf Go.Proofs.Ytiemfklonhlnnaa

set_option maxHeartbeats 1000000 in
theorem may_any (n f t : Int) (w : World) : Calls Try.prog 68 #[.int .i64 n, .int .i64 f, .int .i64 t] w fun e w' => e = .returned (.bool (mayB n f t)) ∧ w = w' := by
  by_cases h : 0 ≤ f ∧ f ≤ t ∧ t ≤ 65536 ∧ 0 ≤ n ∧ n ≤ t - f
  · rw [mayB_iff.2 h]
    obtain ⟨h1, h2, h3, h4, h5⟩ := h
    go_enter Try.func68, Try.ntmps68
    go_wp2
    go_ret
    exact ⟨rfl, rfl⟩
  · rw [mayB_false h]
    by_cases h1 : 0 ≤ f
    · by_cases h2 : f ≤ t
      · by_cases h3 : t ≤ 65536
        · by_cases h4 : 0 ≤ n
          · have h5 : ¬ n ≤ t - f := fun g => h ⟨h1, h2, h3, h4, g⟩
            clear h
            go_enter Try.func68, Try.ntmps68
            go_wp2
            go_ret
            exact ⟨rfl, rfl⟩
          · clear h
            go_enter Try.func68, Try.ntmps68
            go_wp2
            go_ret
            exact ⟨rfl, rfl⟩
        · clear h
          go_enter Try.func68, Try.ntmps68
          go_wp2
          go_ret
          exact ⟨rfl, rfl⟩
      · clear h
        go_enter Try.func68, Try.ntmps68
        go_wp2
        go_ret
        exact ⟨rfl, rfl⟩
    · clear h
      go_enter Try.func68, Try.ntmps68
      go_wp2
      go_ret
      exact ⟨rfl, rfl⟩

/-- What is answered: numbers that are new, and an error. -/
def AnsI (V : List Int × Int) (w : World) (e : Ending) (w' : World) : Prop :=
  ∃ v, e = .returned (.tuple #[v, .int .i64 V.2]) ∧ w'.ownsRow w.heap.size 3 1 v V.1.length (V.1.map (Value.int .i64)) ∧ Below w.heap.size w w'
theorem AnsI.nil {V : List Int × Int} {w w' : World} {c : Int} (h : V = ([], c)) (hb : Below w.heap.size w w') : AnsI V w (.returned (.tuple #[.slice Option.none 0 0, .int .i64 c])) w' := by
  subst h
  exact ⟨_, rfl, World.ownsRow_nil _ _ _ _, hb⟩
theorem AnsI.some {V : List Int × Int} {w w' : World} {zs : List Int} {c : Int} {v : Value} (h : V = (zs, c)) (hv : w'.ownsRow w.heap.size 3 1 v zs.length (zs.map (Value.int .i64))) (hb : Below w.heap.size w w') : AnsI V w (.returned (.tuple #[v, .int .i64 c])) w' := by
  subst h
  exact ⟨_, rfl, hv, hb⟩
def placesV (n f t : Int) : List Int × Int := if mayB n f t = true then (placesL n.toNat f.toNat (t - f).toNat, 0) else ([], 2)

set_option maxHeartbeats 1000000 in
theorem Places_any (n f t : Int) (w : World) : Calls Try.prog 63 #[.int .i64 n, .int .i64 f, .int .i64 t] w fun e w' => AnsI (placesV n f t) w e w' := by
  by_cases h : mayB n f t = true
  · have H : Hid (placesV n f t = (placesL n.toNat f.toNat (t - f).toNat, 0)) := Lib.hid (if_pos h)
    have HM := Lib.hid h
    obtain ⟨h1, h2, h3, h4, h5⟩ := mayB_iff.1 h
    obtain ⟨n, rfl⟩ := Int.eq_ofNat_of_zero_le h4
    obtain ⟨f, rfl⟩ := Int.eq_ofNat_of_zero_le h1
    obtain ⟨t, rfl⟩ := Int.eq_ofNat_of_zero_le (show 0 ≤ t by omega)
    have HD : Hid (((t : Int) - (f : Int)).toNat = t - f) := Lib.hid (by omega)
    have HSq := Lib.hid (places_stops 1 (w.heap.size + 3) n f t (t - f) w (by omega) (by omega) (by omega))
    have HZ := Lib.hid (boxed_size w n f t)
    have HBX := Lib.hid (boxed_below w n f t)
    clear h
    go_enter Try.func63, Try.ntmps63
    go_wp2_with fail
    refine (may_any _ _ _ _).mono ?_
    rintro e w' ⟨rfl, rfl⟩
    rw [HM.out]
    go_wp2_with fail
    refine (places_any n f t w).mono ?_
    rintro e w' ⟨rfl, rfl⟩
    go_wp2_with fail
    refine (collect_ints 75 _ (enters_of Try.func75 (by kernel_rfl) rfl) _ _ _ n _ _ (boxed w n f t) (by rw [HZ.out]; omega) (by rw [HZ.out]; omega) (by omega) HSq.out).mono ?_
    rintro e w1 ⟨v, xs, rfl, rfl, hv, hb⟩
    have HV := Lib.hid (hv.mono (by rw [HZ.out]; omega) : w1.ownsRow w.heap.size 3 1 v (placesL n f (t - f)).length ((placesL n f (t - f)).map (Value.int .i64)))
    have HB := Lib.hid (bstep HBX.out hb)
    clear hv hb
    go_wp2
    go_ret2
    refine AnsI.some ?_ HV.out HB.out
    rw [H.out, Int.toNat_natCast, Int.toNat_natCast, HD.out]
  · have H : Hid (placesV n f t = ([], 2)) := Lib.hid (if_neg h)
    have HM : Hid (mayB n f t = false) := Lib.hid (by simpa using h)
    clear h
    go_enter Try.func63, Try.ntmps63
    go_wp2_with fail
    refine (may_any _ _ _ _).mono ?_
    rintro e w' ⟨rfl, rfl⟩
    rw [HM.out]
    go_wp2
    go_ret2
    exact AnsI.nil H.out (Below.refl _ _)

theorem placeI (n f d k : Nat) : ((place n f d k : Nat) : Int) = (f : Int) + (k : Int) * (d : Int) / (n : Int) := by unfold place; simp

end Go.Proofs.Ytiemfklonhlnnaa.Spr
