/- A part that is filled has just these pairs: the plain law. What came in: two numbers in a box, pairs. Contracts of package slots: the document's Filled. -/
import Derived.Test.YtfdkaahkhgljdaaMan
set_option linter.unusedSimpArgs false
set_option linter.unusedVariables false
namespace Go.Proofs.Ytfdkaahkhgljdaa.Slo
open Go.RowKit Go.Shelf Go.Sort Go.Proofs.Ytfdkaahkhgljdaa Go.Proofs.Ytfdkaahkhgljdaa.Occ Go.Proofs.Ytfdkaahkhgljdaa.Frac

theorem sorted_ext : ∀ (a b : List Nat), a.Pairwise (· < ·) → b.Pairwise (· < ·) → (∀ i, i ∈ a ↔ i ∈ b) → a = b
  | [], [], _, _, _ => rfl
  | [], y :: b, _, _, h => by have := (h y).2 (List.mem_cons_self); simp at this
  | x :: a, [], _, _, h => by have := (h x).1 (List.mem_cons_self); simp at this
  | x :: a, y :: b, ha, hb, h => by
    obtain ⟨h1, ha'⟩ := List.pairwise_cons.1 ha
    obtain ⟨h2, hb'⟩ := List.pairwise_cons.1 hb
    have hxy : x = y := by
      rcases List.mem_cons.1 ((h x).1 List.mem_cons_self) with e | m
      · exact e
      · rcases List.mem_cons.1 ((h y).2 List.mem_cons_self) with e | m2
        · exact e.symm
        · have := h2 x m; have := h1 y m2; omega
    subst hxy
    rw [sorted_ext a b ha' hb' fun i => ?_]
    constructor
    · intro m
      rcases List.mem_cons.1 ((h i).1 (List.mem_cons_of_mem _ m)) with e | m2
      · have := h1 i m; omega
      · exact m2
    · intro m
      rcases List.mem_cons.1 ((h i).2 (List.mem_cons_of_mem _ m)) with e | m2
      · have := h2 i m; omega
      · exact m2
theorem occs_eq {ws : List Int} {f d : Nat} {L : List Nat} (hL : L.Pairwise (· < ·)) (hm : ∀ i, i ∈ L ↔ (f ≤ i ∧ i < f + d) ∧ occB ws i = true) : occs ws f d = L := by
  refine sorted_ext _ _ ?_ hL fun i => ?_
  · unfold occs
    exact List.Pairwise.filter _ List.pairwise_lt_range'
  · rw [hm i]
    unfold occs
    rw [List.mem_filter, List.mem_range'_1]

theorem clr_facts {s : Sl} {g q n f : Nat} (h : Is s g q n) : ∀ k, f + k ≤ n → (∀ i, occB (clrV s f k).ws i = if f ≤ i ∧ i < f + k then false else occB s.ws i) ∧ (∀ i, (i < f ∨ f + k ≤ i) → pairAt (clrV s f k) i = pairAt s i) ∧ (clrV s f k).laid = s.laid
  | 0, _ => ⟨fun i => by rw [if_neg (by omega)]; rfl, fun _ _ => rfl, rfl⟩
  | k + 1, hk => by
    obtain ⟨h1, h2, h3⟩ := clr_facts (f := f) h k (by omega)
    have H := h.clr k (f := f) (by omega)
    have hlt : f + k < (clrV s f k).ks.length := by rw [H.n]; omega
    refine ⟨fun i => ?_, fun i hi => ?_, h3⟩
    · show occB (takeV (clrV s f k) (f + k)).ws i = _
      rw [take_occ H.o H.u hlt, h1]
      by_cases e : i = f + k
      · rw [if_pos e, if_pos (by omega)]
      · rw [if_neg e]
        by_cases e2 : f ≤ i ∧ i < f + k
        · rw [if_pos e2, if_pos (by omega)]
        · rw [if_neg e2, if_neg (by omega)]
    · show pairAt (takeV (clrV s f k) (f + k)) i = _
      rw [pair_take H.o hlt, if_neg (by omega), h2 i (by omega)]

/-- Strictly rising. -/
def RisesV (xs : List Int) : Prop := ∀ j k, j < k → k < xs.length → xs.getD j 0 < xs.getD k 0
theorem rises_of {f t : Int} {xs : List Int} (h : partB f t xs = true) : RisesV xs := by
  intro j k hjk hk
  induction k with
  | zero => omega
  | succ k ih =>
    have h1 := (partB_iff.1 h (k + 1) hk).1
    simp only [prevV, Nat.add_sub_cancel, if_neg (Nat.succ_ne_zero k)] at h1
    rcases Nat.lt_or_ge j k with h2 | h2
    · have := ih h2 (by omega); omega
    · obtain rfl : j = k := by omega
      exact h1

theorem lay_facts {s : Sl} {g q n : Nat} (h : Is s g q n) {xs : List Int} {ps : List (Int × Int)} (hx : ∀ k, k < xs.length → 0 ≤ xs.getD k 0 ∧ xs.getD k 0 < n) (hr : RisesV xs) : ∀ k, k ≤ xs.length →
    (∀ j, j < k → occB (layL s xs ps k).ws (xs.getD j 0).toNat = true ∧ pairAt (layL s xs ps k) (xs.getD j 0).toNat = ps.getD j (0, 0)) ∧
    (∀ i : Nat, (∀ j, j < k → xs.getD j 0 ≠ i) → occB (layL s xs ps k).ws i = occB s.ws i ∧ pairAt (layL s xs ps k) i = pairAt s i) ∧ (layL s xs ps k).laid = IntKind.u64.wrap (s.laid + k)
  | 0, _ => ⟨fun j hj => by omega, fun _ _ => ⟨rfl, rfl⟩, by
      show s.laid = _
      rw [IntKind.wrap_u64]; have := h.l; omega⟩
  | k + 1, hk => by
    obtain ⟨h1, h2, h3⟩ := lay_facts h hx hr k (by omega) (ps := ps)
    have H := h.layL hx (ps := ps) k (by omega)
    have hxk := hx k (by omega)
    have hlt : (xs.getD k 0).toNat < (layL s xs ps k).ks.length := by rw [H.n]; omega
    have O := lay_occ H.o H.u hlt (ps.getD k (0, 0)).1 (ps.getD k (0, 0)).2
    have Q := pair_lay H.o H.u hlt (ps.getD k (0, 0)).1 (ps.getD k (0, 0)).2
    refine ⟨fun j hj => ?_, fun i hi => ?_, ?_⟩
    · show occB (layV (layL s xs ps k) _ _ _).ws _ = true ∧ pairAt (layV (layL s xs ps k) _ _ _) _ = _
      rw [O, Q]
      by_cases e : j = k
      · subst e; rw [if_pos rfl, if_pos rfl]; exact ⟨rfl, rfl⟩
      · have hlt2 := hr j k (by omega) (by omega)
        have hxj := hx j (by omega)
        have e2 : (xs.getD j 0).toNat ≠ (xs.getD k 0).toNat := by omega
        rw [if_neg e2, if_neg e2]; exact h1 j (by omega)
    · show occB (layV (layL s xs ps k) _ _ _).ws _ = _ ∧ pairAt (layV (layL s xs ps k) _ _ _) _ = _
      have e := hi k (by omega)
      have e2 : i ≠ (xs.getD k 0).toNat := by omega
      rw [O, Q, if_neg e2, if_neg e2]; exact h2 i fun j hj => hi j (by omega)
    · show IntKind.u64.wrap ((layL s xs ps k).laid + 1) = _
      rw [h3, IntKind.wrap_u64, IntKind.wrap_u64, IntKind.wrap_u64]; have := h.l; omega

/-- What the law asks of what was filled. -/
structure Whole (s : Sl) (f t : Int) (xs : List Int) (ps : List (Int × Int)) (X : Sl) : Prop where
  wx : X.Wf
  lk : X.ks.length = s.ks.length
  len : xs.length = ps.length
  pin : prsV X f t = (ps, 0)
  pa : prsV X 0 f = prsV s 0 f ∧ (prsV s 0 f).2 = 0
  pc : prsV X t X.ks.length = prsV s t s.ks.length ∧ (prsV s t s.ks.length).2 = 0
  at_ : ∀ k, k < xs.length → atV X (xs.getD k 0) = (ps.getD k (0, 0), 0)
  laid : X.laid = IntKind.u64.wrap (s.laid + ps.length)
  ck : chkS X = 0
theorem fillSV_no {s : Sl} {f t : Int} {xs : List Int} {ps : List (Int × Int)} (h : (fillSV s f t xs ps).2 ≠ 0) : (fillSV s f t xs ps).1 = noneS := by
  unfold fillSV at *
  split
  · rfl
  · split
    · rfl
    · rename_i h1 h2; rw [if_neg h1, if_neg h2] at h; exact absurd rfl h
theorem whole_of {s : Sl} {f t : Int} {xs : List Int} {ps : List (Int × Int)} (hu : U64 s.ws) (hl : 0 ≤ s.laid ∧ s.laid < 18446744073709551616) (h : (fillSV s f t xs ps).2 = 0) :
    ∃ X, fillSV s f t xs ps = (X, 0) ∧ Whole s f t xs ps X := by
  unfold fillSV at h ⊢
  by_cases h1 : askS s (inB s.ks.length f t) ≠ 0
  · rw [if_pos h1] at h; exact absurd h h1
  rw [if_neg h1] at h ⊢
  by_cases h2 : xs.length ≠ ps.length ∨ partB f t xs = false
  · rw [if_pos h2] at h; simp at h
  rw [if_neg h2]
  obtain ⟨hk, hin⟩ := askS_ok (Classical.not_not.1 h1)
  obtain ⟨h0, hft, htn⟩ := inB_iff.1 hin
  have hlen : xs.length = ps.length := Classical.not_not.1 fun e => h2 (.inl e)
  have hp : partB f t xs = true := by cases e : partB f t xs with
    | true => rfl
    | false => exact absurd (.inr e) h2
  obtain ⟨f, rfl⟩ := Int.eq_ofNat_of_zero_le h0
  obtain ⟨t, rfl⟩ := Int.eq_ofNat_of_zero_le (show 0 ≤ t by omega)
  obtain ⟨g, q, o⟩ := okS_iff.1 hk
  have I : Is s g q s.ks.length := ⟨o, hu, hl, rfl⟩
  have hft : f ≤ t := by omega
  have htn : t ≤ s.ks.length := by omega
  have IY := I.clr (f := f) (t - f) (by omega)
  obtain ⟨c1, c2, c3⟩ := clr_facts (f := f) I (t - f) (by omega)
  have hge := partB_ge hp
  have hlt : ∀ k, k < xs.length → xs.getD k 0 < (t : Int) := fun k hk => (partB_iff.1 hp k hk).2
  have hx : ∀ k, k < xs.length → 0 ≤ xs.getD k 0 ∧ xs.getD k 0 < (s.ks.length : Int) := fun k hk => by have := hge k hk; have := hlt k hk; omega
  have hr := rises_of hp
  have IX := IY.layL (ps := ps) hx xs.length (Nat.le_refl _)
  obtain ⟨d1, d2, d3⟩ := lay_facts IY (ps := ps) hx hr xs.length (Nat.le_refl _)
  simp only [Int.toNat_natCast]
  have eX : fillV s f t xs ps = layL (clrV s f (t - f)) xs ps xs.length := rfl
  rw [← eX] at IX d1 d2 d3
  generalize fillV s f t xs ps = X at *
  have lX := IX.n
  have out : ∀ i : Nat, (i < f ∨ t ≤ i) → occB X.ws i = occB s.ws i ∧ pairAt X i = pairAt s i := fun i hi => by
    obtain ⟨e1, e2⟩ := d2 i fun j hj => by have := hge j hj; have := hlt j hj; omega
    rw [e1, e2, c1, if_neg (by omega)]
    exact ⟨rfl, c2 i (by omega)⟩
  have hask : ∀ {Z : Sl} {b : Bool}, okS Z = true → b = true → askS Z b = 0 := fun hz hb => by rw [hb]; exact askS_in hz
  have oX := IX.o.ok
  have side : ∀ a d : Nat, (a + d ≤ f ∨ t ≤ a) → prs X a d = prs s a d := fun a d had => by
    unfold prs
    rw [occs_congr (ws := X.ws) (ws' := s.ws) fun i h3 h4 => (out i (by omega)).1]
    refine List.map_congr_left fun i hi => (out i ?_).2
    unfold occs at hi
    have := (List.mem_filter.1 hi).1
    rw [List.mem_range'_1] at this
    omega
  refine ⟨X, rfl, IX.o.wf IX.u IX.l, lX, hlen, ?_, ⟨?_, ?_⟩, ⟨?_, ?_⟩, ?_, ?_, ?_⟩
  · unfold prsV
    rw [if_pos (hask oX (by rw [lX]; exact inB_iff.2 (by omega)))]
    simp only [Int.toNat_natCast]
    rw [show ((t : Int) - (f : Int)).toNat = t - f by omega]
    have e : occs X.ws f (t - f) = (List.range xs.length).map fun j => (xs.getD j 0).toNat := by
      refine occs_eq ?_ fun i => ?_
      · rw [List.pairwise_map]
        refine List.Pairwise.imp_of_mem ?_ (List.pairwise_lt_range (n := xs.length))
        intro a b ha hb hab
        have := hr a b hab (List.mem_range.1 hb)
        have := hx a (List.mem_range.1 ha)
        omega
      · rw [List.mem_map]
        constructor
        · rintro ⟨j, hj, rfl⟩
          have hj := List.mem_range.1 hj
          have := hge j hj; have := hlt j hj
          exact ⟨by omega, (d1 j hj).1⟩
        · rintro ⟨hi, ho⟩
          refine Classical.byContradiction fun hno => ?_
          have := (d2 i fun j hj e => hno ⟨j, List.mem_range.2 hj, by omega⟩).1
          rw [c1, if_pos (by omega)] at this
          rw [this] at ho; cases ho
    unfold prs
    rw [e, List.map_map]
    congr 1
    refine List.ext_getElem? fun j => ?_
    by_cases hj : j < xs.length
    · have hj2 : j < ps.length := by omega
      simp [List.getElem?_map, List.getElem?_range, hj]
      have := (d1 j hj).2
      simp [List.getD_eq_getElem?_getD, hj, hj2] at this
      simp [List.getElem?_eq_getElem hj2, this]
    · rw [List.getElem?_eq_none (by simp; omega), List.getElem?_eq_none (by omega)]
  · unfold prsV
    rw [if_pos (hask oX (by rw [lX]; exact inB_iff.2 (by omega))), if_pos (hask hk (inB_iff.2 (by omega)))]
    rw [side _ _ (by omega)]
  · unfold prsV
    rw [if_pos (hask hk (inB_iff.2 (by omega)))]
  · unfold prsV
    rw [if_pos (hask oX (inB_iff.2 (by omega))), if_pos (hask hk (inB_iff.2 (by omega))), lX]
    rw [side _ _ (by omega)]
  · unfold prsV
    rw [if_pos (hask hk (inB_iff.2 (by omega)))]
  · intro k hk'
    obtain ⟨e1, e2⟩ := d1 k hk'
    have h3 := hx k hk'
    have e3 := atV_of oX (a := (xs.getD k 0).toNat) (by omega)
    rw [Int.toNat_of_nonneg h3.1, if_pos e1, e2] at e3
    exact e3
  · rw [d3, c3, hlen]
  · unfold chkS; rw [if_pos oX]
end Go.Proofs.Ytfdkaahkhgljdaa.Slo

namespace Go.Proofs.Ytfdkaahkhgljdaa.Slo
open Go.RowKit Go.Shelf Go.Sort Go.Proofs.Ytfdkaahkhgljdaa Go.Proofs.Ytfdkaahkhgljdaa.Occ Go.Proofs.Ytfdkaahkhgljdaa.Frac

/-- Two numbers in a box. -/
def alloc2 (W : World) (a b : Int) : World := W.alloc (.cells #[.int .i64 a, .int .i64 b] 28)
theorem alloc2_fold (W : World) (a b : Int) : W.alloc (.cells #[.int .i64 a, .int .i64 b] 28) = alloc2 W a b := rfl
theorem alloc2_size (W : World) (a b : Int) : (alloc2 W a b).heap.size = W.heap.size + 1 := by simp [alloc2]
theorem alloc2_below (W : World) (a b : Int) : Below W.heap.size W (alloc2 W a b) := (Below.refl _ W).alloc (Nat.le_refl _) _
theorem alloc2_bp (W : World) (a b : Int) : BP (alloc2 W a b) W.heap.size a b := ⟨Res.new W a b _, by rw [alloc2_size]; omega⟩
/-- The two boxes. -/
def in2 (w : World) (s : Sl) (h : Hd) (a b : Int) : World := alloc2 (allocS w s h) a b
theorem in2_size (w : World) (s : Sl) (h : Hd) (a b : Int) : (in2 w s h a b).heap.size = w.heap.size + 2 := by simp [in2, alloc2_size, allocS_size]
theorem in2_below (w : World) (s : Sl) (h : Hd) (a b : Int) : Below w.heap.size w (in2 w s h a b) :=
  (allocS_below w s h).trans ((alloc2_below _ a b).mono (by rw [allocS_size]; omega))
theorem in2_bs (w : World) (s : Sl) (h : Hd) (a b : Int) : BS (in2 w s h a b) w.heap.size s h := (allocS_bs w s h).next (alloc2_below _ a b)
theorem in2_bp (w : World) (s : Sl) (h : Hd) (a b : Int) : BP (in2 w s h a b) (w.heap.size + 1) a b := by
  have := alloc2_bp (allocS w s h) a b
  rwa [allocS_size] at this
/-- What is told of pairs that came in. -/
structure ArgP (w : World) (a : Option Addr) (len cap : Nat) (ps : List (Int × Int)) : Prop where
  hlen : ps.length = len
  hrd : Rd2 w a ps
  hnil : a = Option.none → cap = 0
  hcap : len ≤ cap
  hbig : cap ≤ 9223372036854775807
theorem argP_of {w : World} {a : Option Addr} {len cap : Nat} {zs : List (Int × Int)} (h : Opn.IsRow2 w a len cap zs) : ArgP w a len cap zs := by
  obtain ⟨hl, h⟩ := h
  rcases h with ⟨rfl, rfl, rfl⟩ | ⟨x, rfl, hc, hm, hz⟩
  · exact ⟨hl, .inl (List.eq_nil_of_length_eq_zero hl), fun _ => rfl, Nat.le_refl _, by omega⟩
  · refine ⟨hl, ?_, (by intro h; cases h), hc, (by unfold maxLen at hm; omega)⟩
    rcases Nat.eq_zero_or_pos zs.length with h0 | h0
    · exact .inl (List.eq_nil_of_length_eq_zero h0)
    · right
      obtain ⟨b, o, s⟩ := x
      obtain rfl : s = Option.none := by simpa [Addr.add] using World.cell?_spot (hz 0 h0).1
      refine ⟨b, o, rfl, ?_, fun i hi => ?_⟩
      · exact World.block_lt_of_cell? w ⟨b, o, Option.none⟩ (by have := (hz 0 h0).1; rwa [Nat.zero_mul, Addr.add_lit, Nat.add_zero] at this)
      · have h1 := (hz i hi).1
        have h2 := (hz i hi).2.1
        rw [Addr.add_lit] at h1 h2
        rw [← Nat.add_assoc] at h2
        exact ⟨h1, h2⟩
end Go.Proofs.Ytfdkaahkhgljdaa.Slo

namespace Go.Proofs.Ytfdkaahkhgljdaa.Slo
open Go.RowKit Go.Shelf Go.Sort Go.Proofs.Ytfdkaahkhgljdaa Go.Proofs.Ytfdkaahkhgljdaa.Occ Go.Proofs.Ytfdkaahkhgljdaa.Frac
attribute [local go_sem] Oper.semAt_some

theorem set_id {l : List Int} {i : Nat} {x : Int} (h : l.getD i 0 = x) (hi : i < l.length) : l.set i x = l := by
  subst h
  refine List.ext_getElem? fun j => ?_
  rw [List.getElem?_set]
  by_cases e : i = j
  · subst e; simp [hi, List.getD_eq_getElem?_getD]
  · simp [e]
theorem take_idle {s : Sl} {g q a : Nat} (o : Ok s g q) (hu : U64 s.ws) (ha : a < s.ks.length) (h : occB s.ws a = false) : takeV s a = s := by
  obtain ⟨z1, z2⟩ := o.blank a ha h
  have hw := putV_same hu h (o.in ha)
  have hk := set_id z1 ha
  have hv := set_id z2 (by rw [o.v]; exact ha)
  clear o hu
  obtain ⟨sg, ws, ks, vs, cs, ld⟩ := s
  unfold takeV
  dsimp only at *
  rw [hw, hk, hv, h]
  rfl
/-- One more pair is laid where there was none. -/
theorem layL_step {s : Sl} {g q n f t : Nat} (h : Is s g q n) (hft : f ≤ t) (htn : t ≤ n) {xs : List Int} {ps : List (Int × Int)} (hp : partB f t xs = true) {k : Nat} (hk : k < xs.length) :
    layL (clrV s f (t - f)) xs ps (k + 1) = setV (layL (clrV s f (t - f)) xs ps k) (xs.getD k 0).toNat (ps.getD k (0, 0)).1 (ps.getD k (0, 0)).2 ∧ occB (layL (clrV s f (t - f)) xs ps k).ws (xs.getD k 0).toNat = false := by
  have hx : ∀ k, k < xs.length → 0 ≤ xs.getD k 0 ∧ xs.getD k 0 < n := fun k hk => by
    have := partB_ge hp k hk; have := (partB_iff.1 hp k hk).2; omega
  have hr := rises_of hp
  have IY := h.clr (f := f) (t - f) (by omega)
  obtain ⟨c1, -, -⟩ := clr_facts (f := f) h (t - f) (by omega)
  have D := (lay_facts IY (ps := ps) hx hr k (by omega)).2.1 (xs.getD k 0).toNat (fun j hj => by have := hr j k hj hk; have := hx j (by omega); omega)
  have h1 := hx k hk
  have h2 := partB_ge hp k hk
  have h3 := (partB_iff.1 hp k hk).2
  have hf : occB (layL (clrV s f (t - f)) xs ps k).ws (xs.getD k 0).toNat = false := by rw [D.1, c1, if_pos (by omega)]
  have IX := IY.layL (ps := ps) hx k (by omega)
  refine ⟨?_, hf⟩
  show setV (takeV (layL (clrV s f (t - f)) xs ps k) _) _ _ _ = _
  rw [take_idle IX.o IX.u (by rw [IX.n]; omega) hf]
/-- What is known of a slot that is turned. -/
structure Rnd (T : Sl) (g A : Nat) : Prop where
  hk : A < T.ks.length
  hv : A < T.vs.length
  hc : A / g < T.cs.length
  seg : T.seg = (g : Int)
  cnt : 0 ≤ T.cs.getD (A / g) 0 ∧ T.cs.getD (A / g) 0 ≤ 64
  n1 : T.ks.length ≤ 65536
  u : U64 T.ws
  lw : T.ws.length ≤ 100000
  in_ : A < 64 * T.ws.length
  l : 0 ≤ T.laid ∧ T.laid < 18446744073709551616
def FilI (w wr : World) (S : Sl) : Prop := ∃ h2 : Hd, Brr wr (w.heap.size + 2) w.heap.size S h2 ∧ Below w.heap.size w wr ∧ BoxZ wr (w.heap.size + 1)
theorem Is.rnd {T : Sl} {g q n A : Nat} (i : Is T g q n) (h : A < n) : Rnd T g A := by
  have ha : A < T.ks.length := by rw [i.n]; exact h
  have c := i.o.count ha
  have W := i.o.wf i.u i.l
  exact ⟨ha, by rw [i.o.v]; exact ha, by rw [i.o.c]; exact (seg_of i.o.g4 i.o.n ha).1, i.o.seg, ⟨c.1, c.2.1⟩, i.o.n1, i.u, W.lw, i.o.in ha, i.l⟩
theorem Rd.cellAt {k : IntKind} {w w1 : World} {b o : Nat} {zs : List Int} {n i : Nat} (h : Rd k w (some ⟨b, o, Option.none⟩) zs) (hb : Below n w w1) (hn : w.heap.size ≤ n) (hi : i < zs.length) : w1.cell? ⟨b, o + i, Option.none⟩ = some (.int k (zs.getD i 0)) := by
  obtain ⟨b', o', e, c⟩ := Rd.at h hb hn hi
  cases e; exact c
theorem Rd2.cellAt {w w1 : World} {b o : Nat} {P : List (Int × Int)} {n i : Nat} (h : Rd2 w (some ⟨b, o, Option.none⟩) P) (hb : Below n w w1) (hn : w.heap.size ≤ n) (hi : i < P.length) :
    w1.cell? ⟨b, o + i * 2, Option.none⟩ = some (.int .i64 (P.getD i (0, 0)).1) ∧ w1.cell? ⟨b, o + i * 2 + 1, Option.none⟩ = some (.int .i64 (P.getD i (0, 0)).2) := by
  obtain ⟨b', o', e, c⟩ := Rd2.at h hb hn hi
  cases e; exact c

set_option maxRecDepth 100000 in
set_option maxHeartbeats 8000000 in
theorem refFilled_any (s : Sl) (h : Hd) (g q f t : Nat) (ax : Option Addr) (cx : Nat) (xs : List Int) (al : Option Addr) (cl : Nat) (ps : List (Int × Int)) (w : World) (W : s.Wf) (R : SRd w s h) (N : HNo h) (o : Ok s g q) (hft : f ≤ t) (htn : t ≤ s.ks.length)
    (hrx : Rd .i64 w ax xs) (hrp : Rd2 w al ps) (hlen : xs.length = ps.length) (lp : ps.length ≤ 1000000) (hp : partB f t xs = true) :
    Calls Try.prog 42 #[sval s h, .int .i64 f, .int .i64 t, .slice ax xs.length cx, .slice al ps.length cl] w fun e w' => ∃ h', e = .returned (sval (fillV s f t xs ps) h') ∧ SOwn w' w.heap.size w'.heap.size (fillV s f t xs ps) h' ∧ Below w.heap.size w w' := by
  have HT := Lib.hid (refTwin_any s h (twoW w s h (.cells #[.int .i64 0, .slice Option.none 0 0, .slice Option.none 0 0, .slice Option.none 0 0, .slice Option.none 0 0, .int .u64 0] 27)) W (R.mono (twoW_below w s h _) (Nat.le_refl _)) N)
  have HB0 := Lib.hid (twoW_below w s h (.cells #[.int .i64 0, .slice Option.none 0 0, .slice Option.none 0 0, .slice Option.none 0 0, .slice Option.none 0 0, .int .u64 0] 27))
  have HX0 := Lib.hid (twoW_box w s h (.cells #[.int .i64 0, .slice Option.none 0 0, .slice Option.none 0 0, .slice Option.none 0 0, .slice Option.none 0 0, .int .u64 0] 27))
  have HZ0 := Lib.hid (twoW_zero w s h)
  have HS0 := Lib.hid (twoW_size w s h (.cells #[.int .i64 0, .slice Option.none 0 0, .slice Option.none 0 0, .slice Option.none 0 0, .slice Option.none 0 0, .int .u64 0] 27))
  have I : Is s g q s.ks.length := ⟨o, W.u, W.laid, rfl⟩
  have hn1 := o.n1
  have HC1 : Hid (∀ A, f ≤ A → A < t → Rnd (clrV s f (A - f)) g A ∧ (occB (clrV s f (A - f)).ws A = false → clrV s f (A + 1 - f) = { clrV s f (A - f) with ks := (clrV s f (A - f)).ks.set A 0, vs := (clrV s f (A - f)).vs.set A 0 }) ∧
      (occB (clrV s f (A - f)).ws A = true → clrV s f (A + 1 - f) = { clrV s f (A - f) with ws := putV (clrV s f (A - f)).ws A false, ks := (clrV s f (A - f)).ks.set A 0, vs := (clrV s f (A - f)).vs.set A 0, cs := (clrV s f (A - f)).cs.set (A / g) ((clrV s f (A - f)).cs.getD (A / g) 0 - 1) })) := Lib.hid fun A h1 h2 => by
    have i := I.clr (f := f) (A - f) (by omega)
    have e1 : clrV s f (A + 1 - f) = takeV (clrV s f (A - f)) A := by
      rw [show A + 1 - f = A - f + 1 by omega]; show takeV _ (f + (A - f)) = _; rw [show f + (A - f) = A by omega]
    rw [e1]
    generalize clrV s f (A - f) = T at *
    refine ⟨i.rnd (by omega), fun ho => ?_, fun ho => ?_⟩
    · unfold takeV; rw [if_neg (by rw [ho]; simp), putV_same i.u ho (i.o.in (by rw [i.n]; omega))]
    · unfold takeV; rw [if_pos ho, show T.seg.toNat = g by rw [i.o.seg]; simp]
  have HLK : Hid (∀ k, k < xs.length → ∃ a : Nat, xs.getD k 0 = (a : Int) ∧ Rnd (layL (clrV s f (t - f)) xs ps k) g a ∧ layL (clrV s f (t - f)) xs ps (k + 1) = { layL (clrV s f (t - f)) xs ps k with ws := putV (layL (clrV s f (t - f)) xs ps k).ws a true, ks := (layL (clrV s f (t - f)) xs ps k).ks.set a (ps.getD k (0, 0)).1, vs := (layL (clrV s f (t - f)) xs ps k).vs.set a (ps.getD k (0, 0)).2, cs := (layL (clrV s f (t - f)) xs ps k).cs.set (a / g) ((layL (clrV s f (t - f)) xs ps k).cs.getD (a / g) 0 + 1), laid := IntKind.u64.wrap ((layL (clrV s f (t - f)) xs ps k).laid + 1) }) := Lib.hid fun k hk => by
    have h1 := partB_ge hp k hk
    have h2 := (partB_iff.1 hp k hk).2
    obtain ⟨e1, e2⟩ := layL_step I hft htn hp (ps := ps) hk
    have hx : ∀ k, k < xs.length → 0 ≤ xs.getD k 0 ∧ xs.getD k 0 < s.ks.length := fun k hk => by
      have := partB_ge hp k hk; have := (partB_iff.1 hp k hk).2; omega
    have i := (I.clr (f := f) (t - f) (by omega)).layL (ps := ps) hx k (by omega)
    obtain ⟨a, ha⟩ := Int.eq_ofNat_of_zero_le (hx k hk).1
    rw [ha] at h1 h2 e1 e2
    rw [Int.toNat_natCast] at e1 e2
    refine ⟨a, ha, i.rnd (by omega), ?_⟩
    rw [e1]
    unfold setV; rw [show (layL (clrV s f (t - f)) xs ps k).seg.toNat = g by rw [i.o.seg]; simp]
  have HFV : Hid (fillV s f t xs ps = layL (clrV s f (t - f)) xs ps xs.length) := Lib.hid rfl
  have HF0 : clrV s f (f - f) = s ∧ layL (clrV s f (t - f)) xs ps 0 = clrV s f (t - f) := ⟨by rw [Nat.sub_self]; rfl, rfl⟩
  have lf : (f : Int) ≤ 65536 := by omega
  have lt65 : (t : Int) ≤ 65536 := by omega
  generalize hC : (fun A => clrV s f (A - f)) = C at *
  have HC1 : Hid (∀ A, f ≤ A → A < t → Rnd (C A) g A ∧ (occB (C A).ws A = false → C (A + 1) = { C A with ks := (C A).ks.set A 0, vs := (C A).vs.set A 0 }) ∧
      (occB (C A).ws A = true → C (A + 1) = { C A with ws := putV (C A).ws A false, ks := (C A).ks.set A 0, vs := (C A).vs.set A 0, cs := (C A).cs.set (A / g) ((C A).cs.getD (A / g) 0 - 1) })) := Lib.hid (by rw [← hC]; exact HC1.out)
  generalize hD : layL (clrV s f (t - f)) xs ps = D at *
  have HC0 : Hid (C f = s ∧ D 0 = C t) := Lib.hid ⟨by rw [← hC]; exact HF0.1, by rw [HF0.2, ← hC]⟩
  rw [HFV.out]
  have HX := Lib.hid hrx
  have HP := Lib.hid hrp
  have HLEN := Lib.hid hlen
  have hg4 := o.g4
  have hg64 := o.g64
  clear hC hD HFV HF0 I W R N o hp hrx hrp htn hlen
  unfold sval at *
  go_enter Try.func42, Try.ntmps42
  go_wp2_with fail
  rw [twoW_fold]
  refine HT.out.mono ?_
  rintro e w1 ⟨h1, rfl, ho, hb⟩
  have hz0 := HS0.out
  have hsz := hb.size
  have HB1 : Hid (Below w.heap.size w w1) := Lib.hid (HB0.out.trans (hb.mono (by omega)))
  have HX1 := Lib.hid (HX0.out.below hb (by omega))
  have HD1 := Lib.hid (HZ0.out.below hb (by omega))
  rw [hz0] at ho hsz
  have HO1 := Lib.hid ho
  clear ho hb hz0 HB0 HX0 HZ0 HS0 HT
  generalize twoW w s h (.cells #[.int .i64 0, .slice Option.none 0 0, .slice Option.none 0 0, .slice Option.none 0 0, .slice Option.none 0 0, .int .u64 0] 27) = w0 at *
  have f0 := HX1.out.f 0; have f1 := HX1.out.f 1; have f2 := HX1.out.f 2; have f3 := HX1.out.f 3; have f4 := HX1.out.f 4; have f5 := HX1.out.f 5
  have c0 := HX1.out.c0; have c1 := HX1.out.c1; have c2 := HX1.out.c2; have c3 := HX1.out.c3; have c4 := HX1.out.c4; have c5 := HX1.out.c5
  go_wp2
  rw [stS_fold]
  have HBr : Hid (Brr (stS w1 w.heap.size s h1) (w.heap.size + 2) w.heap.size s h1) := Lib.hid (stS_brr HO1.out HX1.out (by omega) hsz)
  have HBw : Hid (Below w.heap.size w (stS w1 w.heap.size s h1)) := Lib.hid (stS_below HB1.out (Nat.le_refl _))
  have HDz : Hid (BoxZ (stS w1 w.heap.size s h1) (w.heap.size + 1)) := Lib.hid (stS_other HD1.out (by omega))
  clear c0 c1 c2 c3 c4 c5 f0 f1 f2 f3 f4 f5 HX1 HD1 HO1 HB1
  generalize stS w1 w.heap.size s h1 = wz at *
  go_loopw [11] (fun i wr => ∃ A : Nat, f ≤ A ∧ A ≤ t ∧ i = .int .i64 A ∧ FilI w wr (C A)) (fun i _ => t - (intOf i).toNat)
  case atStart => exact ⟨f, Nat.le_refl _, hft, rfl, h1, by rw [HC0.out.1]; exact HBr.out, HBw.out, HDz.out⟩
  case round =>
    obtain ⟨A, hA1, hA2, rfl, h2, hBr, hBl, hBx⟩ := hrel
    clear HBr HBw HDz
    have HBr := Lib.hid hBr
    have HBl := Lib.hid hBl
    have HBx := Lib.hid hBx
    clear hBr hBl hBx
    by_cases hlt : A < t
    · have wk1 : IntKind.i64.wrap ((A : Int) + 1) = ((A + 1 : Nat) : Int) := by rw [IntKind.wrap_i64]; omega
      obtain ⟨hR, hc1, hc2⟩ := HC1.out A hA1 hlt
      have HR := Lib.hid hR
      have HV1 := Lib.hid hc1
      have HV2 := Lib.hid hc2
      clear hR hc1 hc2 HC1 HC0 HLK
      have HIS := Lib.hid (sIs_any (C A) h2 A wr HR.out.u HBr.out.own.rd.fw HR.out.lw HR.out.in_)
      have HPU := Lib.hid (fun w1 (hr : Rd .u64 w1 h2.aw (C A).ws) (hn : h2.aw = Option.none → h2.cw = 0) => Put_ok h2.aw h2.cw (C A).ws A false w1 HR.out.u hr hn HR.out.lw HR.out.in_)
      generalize hT' : C (A + 1) = T' at *
      have HTT := Lib.hid hT'
      clear hT'
      generalize C A = T at *
      unfold sval at *
      have c0 := HBr.out.box.c0; have c1 := HBr.out.box.c1; have c2 := HBr.out.box.c2; have c3 := HBr.out.box.c3; have c4 := HBr.out.box.c4; have c5 := HBr.out.box.c5
      go_wp2_with fail
      clear c0 c1 c2 c3 c4 c5
      refine HIS.out.mono ?_
      rintro e w2 ⟨rfl, hb2⟩
      have HBr2 := Lib.hid (HBr.out.below hb2)
      have HBw2 : Hid (Below w.heap.size w w2) := Lib.hid (HBl.out.trans (hb2.mono HBl.out.size))
      have HD2 := Lib.hid (HBx.out.below hb2 (by have := HBr.out.hl; omega))
      clear HBr HBl HBx hb2 HIS
      have hta : A < T.ks.length := HR.out.hk
      have hav : A < T.vs.length := HR.out.hv
      cases hob : occB T.ws A
      case false =>
        have HV := Lib.hid (HV1.out hob)
        clear HV1 HV2 HPU
        have c0 := HBr2.out.box.c0; have c1 := HBr2.out.box.c1; have c2 := HBr2.out.box.c2; have c3 := HBr2.out.box.c3; have c4 := HBr2.out.box.c4; have c5 := HBr2.out.box.c5
        obtain ⟨gk, ek, x2, fk, lk⟩ := own_open HBr2.out.own.ok hta
        obtain ⟨gv, ev, x3, fv, lv⟩ := own_open HBr2.out.own.ov hav
        have hkv : gk ≠ gv := fun e => HBr2.out.own.kv gk (by rw [ek]; rfl) (by rw [ev, e]; rfl)
        have hkn : gk ≠ w.heap.size := by omega
        have hvn : gv ≠ w.heap.size := by omega
        have hkn1 : gk ≠ w.heap.size + 1 := by omega
        have hvn1 : gv ≠ w.heap.size + 1 := by omega
        have HK := Lib.hid (And.intro ek ev)
        rw [ek] at c2
        rw [ev] at c3
        clear ek ev
        go_wp2
        go_roundw
        case rel =>
          refine ⟨A + 1, by omega, by omega, by go_num, h2, by rw [HTT.out, HV.out]; exact (HBr2.out.set_k (j := A) 0 HK.out.1).set_v (j := A) 0 HK.out.2, ?_, ?_⟩
          · exact (HBw2.out.setCell (by show w.heap.size ≤ gk; omega) _).setCell (by show w.heap.size ≤ gv; omega) _
          · exact (HD2.out.other _ _ hkn1).other _ _ hvn1
        case measure => simp [intOf]; omega
      case true =>
        have HV := Lib.hid (HV2.out hob)
        clear HV1 HV2
        have hcn := HR.out.cnt
        have hjc := HR.out.hc
        have HSGI := Lib.hid HR.out.seg
        have hc1 := hcn.1
        have hc2 := hcn.2
        have c0 := HBr2.out.box.c0; have c1 := HBr2.out.box.c1; have c2 := HBr2.out.box.c2; have c3 := HBr2.out.box.c3; have c4 := HBr2.out.box.c4; have c5 := HBr2.out.box.c5
        obtain ⟨gc, ec, xc, fc, lc⟩ := own_open HBr2.out.own.oc hjc
        have HEC := Lib.hid ec
        rw [ec] at c4
        rw [HSGI.out] at c0
        have hn65 := HR.out.n1
        have ht : (A : Int).tdiv (g : Int) = ((A / g : Nat) : Int) := by rw [Int.tdiv_eq_ediv_of_nonneg (by omega)]; simp
        have hdl := Nat.div_le_self A g
        have wj : IntKind.i64.wrap ((A / g : Nat) : Int) = ((A / g : Nat) : Int) := by
          generalize A / g = jj at *
          rw [IntKind.wrap_i64]; omega
        have g0 : ((g : Int) == 0) = false := by rw [beq_eq_false_iff_ne]; omega
        have g1 : (g : Int) ≠ 0 := by omega
        have g2 : g ≠ 0 := by omega
        have HLT : Hid (∀ cx : Int, (T.cs.set (A / g) cx).length = T.cs.length) := Lib.hid fun cx => List.length_set
        clear HR
        generalize hcc : T.cs.getD (A / g) 0 = cx at *
        generalize A / g = j at *
        have wc : IntKind.i64.wrap (cx - 1) = cx - 1 := by rw [IntKind.wrap_i64]; omega
        clear hcn hcc ec hc1 hc2 hdl
        have hgn : gc ≠ w.heap.size := by omega
        go_wp2_with fail
        refine Mix.wp_region_plan (fun w' => w' = World.drew _) [10] [.dep (List.replicate 10 true)] (Array.replicate 10 true ++ #[false]) 1 mixed' (by kernel_rfl) (by kernel_rfl) (by kernel_rfl) (fun _ _ _ _ _ h => h) rfl ?_
        simp only [Mix.wpPlan, Mix.maskL, List.replicate]
        repeat (go_big_quiet_step (fail))
        refine wpQuiet_nil ?_
        refine Mix.wpAny_tail (List.replicate 10 false ++ [true]) (Array.replicate 11 true) (by kernel_rfl) (by kernel_rfl) ?_
        simp only [Mix.maskL, List.replicate, List.cons_append, List.nil_append]
        have HBr3 : Hid (Brr (w2.setCell ⟨gc, j, Option.none⟩ (.int .i64 (cx - 1))).drew (w.heap.size + 2) w.heap.size { T with cs := T.cs.set j (cx - 1) } h2) := Lib.hid (by have hh := HBr2.out.set_c (j := j) (cx - 1) HEC.out; exact hh.below (Below.refl _ _).drew)
        have HBw3 : Hid (Below w.heap.size w (w2.setCell ⟨gc, j, Option.none⟩ (.int .i64 (cx - 1))).drew) := Lib.hid (HBw2.out.setCell (p := ⟨gc, j, Option.none⟩) (by show w.heap.size ≤ gc; omega) _).drew
        have HD3 := Lib.hid ((HD2.out.other ⟨gc, j, Option.none⟩ (.int .i64 (cx - 1)) (by show gc ≠ w.heap.size + 1; omega)).below (Below.refl (w2.heap.size) _).drew (by have := HBr2.out.hl; omega))
        go_wp2_with fail
        clear c0 c1 c2 c3 c4 c5 xc fc hgn ht wj g0 g1 g2 wc
        generalize (w2.setCell ⟨gc, j, Option.none⟩ (.int .i64 (cx - 1))).drew = w3 at *
        refine (HPU.out w3 HBr3.out.own.rd.fw HBr3.out.own.no.w).mono ?_
        rintro e w4 ⟨v, rfl, hov, hb4⟩
        obtain ⟨a4, p4, rfl⟩ := own_slice hov
        have HBr4 : Hid (Brr (w4.setCell ⟨w.heap.size, 1, Option.none⟩ (.slice a4 T.ws.length p4)) (w.heap.size + 2) w.heap.size { T with ws := putV T.ws A false, cs := T.cs.set j (cx - 1) } { h2 with aw := a4, cw := p4 }) := Lib.hid (by
          have := HBr3.out.put_w (a := a4) (c := p4) (ws := putV T.ws A false) hb4 (putV_length _ _ _) (by rw [putV_length]; exact hov)
          rwa [putV_length] at this)
        have HBw4 : Hid (Below w.heap.size w w4) := Lib.hid (HBw3.out.trans (hb4.mono HBw3.out.size))
        have HD4 := Lib.hid (HD3.out.below hb4 (by have := HBr3.out.hl; omega))
        have HB4 := Lib.hid (HBr3.out.below hb4)
        clear hov hb4
        have c0 := HB4.out.box.c0; have c1 := HB4.out.box.c1; have c2 := HB4.out.box.c2; have c3 := HB4.out.box.c3; have c4 := HB4.out.box.c4; have c5 := HB4.out.box.c5
        obtain ⟨gk, ek, x2, fk, lk⟩ := own_open HB4.out.own.ok hta
        obtain ⟨gv, ev, x3, fv, lv⟩ := own_open HB4.out.own.ov hav
        have hkv : gk ≠ gv := fun e => HB4.out.own.kv gk (by rw [ek]; rfl) (by rw [ev, e]; rfl)
        have hkn : gk ≠ w.heap.size := by omega
        have hvn : gv ≠ w.heap.size := by omega
        have hkn1 : gk ≠ w.heap.size + 1 := by omega
        have hvn1 : gv ≠ w.heap.size + 1 := by omega
        have HK := Lib.hid (And.intro ek ev)
        rw [ek] at c2
        rw [ev] at c3
        clear ek ev
        rw [show (T.cs.set j (cx - 1)).length = T.cs.length from HLT.out _] at c4
        have ff := HB4.out.box.f 1
        go_wp2
        go_roundw
        case rel =>
          refine ⟨A + 1, by omega, by omega, by go_num, { h2 with aw := a4, cw := p4 }, by rw [HTT.out, HV.out]; exact (HBr4.out.set_k (j := A) 0 HK.out.1).set_v (j := A) 0 HK.out.2, ?_, ?_⟩
          · exact ((HBw4.out.setCell (by simp) _).setCell (by show w.heap.size ≤ gk; omega) _).setCell (by show w.heap.size ≤ gv; omega) _
          · exact ((HD4.out.other _ _ (by simp)).other _ _ hkn1).other _ _ hvn1
        case measure => simp [intOf]; omega
    · obtain rfl : A = t := by omega
      have hd0 := HC0.out.2
      rw [← hd0] at HBr
      clear hd0 hA2 hlt HC0 HC1
      go_wp2
      go_loopw [12] (fun i wr => ∃ k : Nat, k ≤ xs.length ∧ i = .int .i64 k ∧ FilI w wr (D k)) (fun i _ => xs.length - (intOf i).toNat)
      case atStart => exact ⟨0, Nat.zero_le _, rfl, h2, HBr.out, HBl.out, HBx.out⟩
      case round =>
        obtain ⟨k, hk, rfl, h3, hBr, hBl, hBx⟩ := hrel
        clear HBr HBl HBx
        have HBr := Lib.hid hBr
        have HBl := Lib.hid hBl
        have HBx := Lib.hid hBx
        clear hBr hBl hBx
        have hlen := HLEN.out
        by_cases hlt : k < xs.length
        · obtain ⟨bx, ox, rfl, hcx⟩ := Rd.at HX.out HBl.out (Nat.le_refl _) hlt
          have hlp : k < ps.length := by rw [← HLEN.out]; exact hlt
          obtain ⟨bp, op, rfl, hp1, hp2⟩ := Rd2.at HP.out HBl.out (Nat.le_refl _) hlp
          obtain ⟨a, ea, hR, hV⟩ := HLK.out k hlt
          have HR := Lib.hid hR
          have HV := Lib.hid hV
          have HAX : Hid (∀ w1, Below w.heap.size w w1 → w1.cell? ⟨bx, ox + k, Option.none⟩ = some (.int .i64 (a : Int))) := Lib.hid fun w1 hb => by rw [← ea]; exact Rd.cellAt HX.out hb (Nat.le_refl _) hlt
          have HAP : Hid (∀ w1, Below w.heap.size w w1 → w1.cell? ⟨bp, op + k * 2, Option.none⟩ = some (.int .i64 (ps.getD k (0, 0)).1) ∧ w1.cell? ⟨bp, op + k * 2 + 1, Option.none⟩ = some (.int .i64 (ps.getD k (0, 0)).2)) := Lib.hid fun w1 hb => Rd2.cellAt HP.out hb (Nat.le_refl _) hlp
          have HPU := Lib.hid (fun w1 (hr : Rd .u64 w1 h3.aw (D k).ws) (hn : h3.aw = Option.none → h3.cw = 0) => Put_ok h3.aw h3.cw (D k).ws a true w1 HR.out.u hr hn HR.out.lw HR.out.in_)
          have wk1 : IntKind.i64.wrap ((k : Int) + 1) = ((k + 1 : Nat) : Int) := by rw [IntKind.wrap_i64]; omega
          clear hR hV HLK hcx hp1 hp2 ea HX HP HLEN
          generalize hT' : D (k + 1) = T' at *
          have HTT := Lib.hid hT'
          clear hT'
          generalize D k = T at *
          generalize ps.getD k (0, 0) = pr at *
          obtain ⟨px, py⟩ := pr
          dsimp only at HAP HV
          have hta : a < T.ks.length := HR.out.hk
          have hav : a < T.vs.length := HR.out.hv
          have hl0 := HR.out.l
          have hl1 := hl0.1
          have hl2 := hl0.2
          clear hl0
          have hcx := HAX.out _ HBl.out
          have hcn := HR.out.cnt
          have hjc := HR.out.hc
          have HSGI := Lib.hid HR.out.seg
          have hc1 := hcn.1
          have hc2 := hcn.2
          have c0 := HBr.out.box.c0; have c1 := HBr.out.box.c1; have c2 := HBr.out.box.c2; have c3 := HBr.out.box.c3; have c4 := HBr.out.box.c4; have c5 := HBr.out.box.c5
          obtain ⟨gc, ec, xc, fc, lc⟩ := own_open HBr.out.own.oc hjc
          have HEC := Lib.hid ec
          rw [ec] at c4
          rw [HSGI.out] at c0
          have hn65 := HR.out.n1
          have ht : (a : Int).tdiv (g : Int) = ((a / g : Nat) : Int) := by rw [Int.tdiv_eq_ediv_of_nonneg (by omega)]; simp
          have hdl := Nat.div_le_self a g
          have wj : IntKind.i64.wrap ((a / g : Nat) : Int) = ((a / g : Nat) : Int) := by
            generalize a / g = jj at *
            rw [IntKind.wrap_i64]; omega
          have g0 : ((g : Int) == 0) = false := by rw [beq_eq_false_iff_ne]; omega
          have g1 : (g : Int) ≠ 0 := by omega
          have g2 : g ≠ 0 := by omega
          have HLT : Hid (∀ cx : Int, (T.cs.set (a / g) cx).length = T.cs.length) := Lib.hid fun cx => List.length_set
          clear HR
          generalize hcc : T.cs.getD (a / g) 0 = cx at *
          generalize a / g = j at *
          have wc : IntKind.i64.wrap (cx + 1) = cx + 1 := by rw [IntKind.wrap_i64]; omega
          clear hcn hcc ec hc1 hc2 hdl
          have hgn : gc ≠ w.heap.size := by omega
          go_wp2_with fail
          refine Mix.wp_region_plan (fun w' => w' = World.drew _) [13] [.dep (List.replicate 13 true)] (Array.replicate 13 true ++ #[false]) 1 mixed' (by kernel_rfl) (by kernel_rfl) (by kernel_rfl) (fun _ _ _ _ _ h => h) rfl ?_
          simp only [Mix.wpPlan, Mix.maskL, List.replicate]
          repeat (go_big_quiet_step (fail))
          refine wpQuiet_nil ?_
          refine Mix.wpAny_tail (List.replicate 13 false ++ [true]) (Array.replicate 14 true) (by kernel_rfl) (by kernel_rfl) ?_
          simp only [Mix.maskL, List.replicate, List.cons_append, List.nil_append]
          have HBr3 : Hid (Brr (wr.setCell ⟨gc, j, Option.none⟩ (.int .i64 (cx + 1))).drew (w.heap.size + 2) w.heap.size { T with cs := T.cs.set j (cx + 1) } h3) := Lib.hid (by have hh := HBr.out.set_c (j := j) (cx + 1) HEC.out; exact hh.below (Below.refl _ _).drew)
          have HBw3 : Hid (Below w.heap.size w (wr.setCell ⟨gc, j, Option.none⟩ (.int .i64 (cx + 1))).drew) := Lib.hid (HBl.out.setCell (p := ⟨gc, j, Option.none⟩) (by show w.heap.size ≤ gc; omega) _).drew
          have HD3 := Lib.hid ((HBx.out.other ⟨gc, j, Option.none⟩ (.int .i64 (cx + 1)) (by show gc ≠ w.heap.size + 1; omega)).below (Below.refl (wr.heap.size) _).drew (by have := HBr.out.hl; omega))
          go_wp2_with fail
          clear c0 c1 c2 c3 c4 c5 xc fc hgn ht wj g0 g1 g2 wc hcx HBr HBl HBx
          generalize (wr.setCell ⟨gc, j, Option.none⟩ (.int .i64 (cx + 1))).drew = w3 at *
          have c1 := HBr3.out.box.c1
          have hcx := HAX.out _ HBw3.out
          refine Mix.wp_region_plan (fun w' => w' = World.drew _) [6] [.dep [true, true, true, true, true, true]] (Array.replicate 6 true ++ #[false, false, false]) 3 mixed' (by kernel_rfl) (by kernel_rfl) (by kernel_rfl) (fun _ _ _ _ _ h => h) rfl ?_
          simp only [Mix.wpPlan, Mix.maskL, List.replicate]
          repeat (go_big_quiet_step (fail))
          refine wpQuiet_nil ?_
          refine Mix.wpAny_tail [false, false, false, false, false, false, true, true, true] (Array.replicate 9 true) (by kernel_rfl) (by kernel_rfl) ?_
          simp only [Mix.maskL, List.replicate, List.cons_append, List.nil_append]
          go_wp2_with fail
          clear c1 hcx
          have HB3 : Hid (Below w.heap.size w w3.drew) := Lib.hid HBw3.out.drew
          have HBr3 := Lib.hid (HBr3.out.below (Below.refl _ _).drew)
          have HD3 := Lib.hid (HD3.out.below (Below.refl (w3.heap.size) _).drew (by have := HBr3.out.hl; simp at this; omega))
          clear HBw3
          generalize w3.drew = w3 at *
          refine (HPU.out _ HBr3.out.own.rd.fw HBr3.out.own.no.w).mono ?_
          rintro e w4 ⟨v, rfl, hov, hb4⟩
          obtain ⟨a4, p4, rfl⟩ := own_slice hov
          have HBr4 : Hid (Brr (w4.setCell ⟨w.heap.size, 1, Option.none⟩ (.slice a4 T.ws.length p4)) (w.heap.size + 2) w.heap.size { T with ws := putV T.ws a true, cs := T.cs.set j (cx + 1) } { h3 with aw := a4, cw := p4 }) := Lib.hid (by
            have := HBr3.out.put_w (a := a4) (c := p4) (ws := putV T.ws a true) hb4 (putV_length _ _ _) (by rw [putV_length]; exact hov)
            rwa [putV_length] at this)
          have HBw4 : Hid (Below w.heap.size w (w4.setCell ⟨w.heap.size, 1, Option.none⟩ (.slice a4 T.ws.length p4))) := Lib.hid ((HB3.out.trans (hb4.mono HB3.out.size)).setCell (by simp) _)
          have HD4 := Lib.hid ((HD3.out.below hb4 (by have := HBr3.out.hl; omega)).other ⟨w.heap.size, 1, Option.none⟩ (.slice a4 T.ws.length p4) (by simp))
          have c1 := (HBr3.out.below hb4).box.c1
          have ff := (HBr3.out.below hb4).box.f 1
          clear hov hb4 HBr3 HB3 HD3 HPU
          go_wp2_with fail
          clear c1 ff
          generalize w4.setCell ⟨w.heap.size, 1, Option.none⟩ (.slice a4 T.ws.length p4) = w5 at *
          obtain ⟨gk, ek, x2, fk, lk⟩ := own_open HBr4.out.own.ok hta
          have HK := Lib.hid ek
          have c2 := HBr4.out.box.c2
          rw [ek] at c2
          clear ek
          have hcx := HAX.out _ HBw4.out
          have hpx := (HAP.out _ HBw4.out).1
          refine Mix.wp_region_plan (fun w' => w' = World.drew _) [12] [.dep (List.replicate 12 true)] (Array.replicate 12 true ++ #[false]) 1 mixed' (by kernel_rfl) (by kernel_rfl) (by kernel_rfl) (fun _ _ _ _ _ h => h) rfl ?_
          simp only [Mix.wpPlan, Mix.maskL, List.replicate]
          repeat (go_big_quiet_step (fail))
          refine wpQuiet_nil ?_
          refine Mix.wpAny_tail (List.replicate 12 false ++ [true]) (Array.replicate 13 true) (by kernel_rfl) (by kernel_rfl) ?_
          simp only [Mix.maskL, List.replicate, List.cons_append, List.nil_append]
          have HBr5 : Hid (Brr (w5.setCell ⟨gk, a, Option.none⟩ (.int .i64 px)).drew (w.heap.size + 2) w.heap.size { T with ws := putV T.ws a true, ks := T.ks.set a px, cs := T.cs.set j (cx + 1) } { h3 with aw := a4, cw := p4 }) := Lib.hid ((HBr4.out.set_k (j := a) px HK.out).below (Below.refl _ _).drew)
          have HBw5 : Hid (Below w.heap.size w (w5.setCell ⟨gk, a, Option.none⟩ (.int .i64 px)).drew) := Lib.hid (HBw4.out.setCell (p := ⟨gk, a, Option.none⟩) (by show w.heap.size ≤ gk; omega) _).drew
          have HD5 := Lib.hid ((HD4.out.other ⟨gk, a, Option.none⟩ (.int .i64 px) (by show gk ≠ w.heap.size + 1; omega)).below (Below.refl (w5.heap.size) _).drew (by have := HBr4.out.hl; omega))
          go_wp2_with fail
          clear c2 x2 fk hcx hpx HBr4 HBw4 HD4 HK lk
          generalize (w5.setCell ⟨gk, a, Option.none⟩ (.int .i64 px)).drew = w6 at *
          obtain ⟨gv, ev, x3, fv, lv⟩ := own_open HBr5.out.own.ov hav
          have HK := Lib.hid ev
          have c3 := HBr5.out.box.c3
          rw [ev] at c3
          clear ev
          have hcx := HAX.out _ HBw5.out
          have hpy := (HAP.out _ HBw5.out).2
          refine Mix.wp_region_plan (fun w' => w' = World.drew _) [12] [.dep (List.replicate 12 true)] (Array.replicate 12 true ++ #[false]) 1 mixed' (by kernel_rfl) (by kernel_rfl) (by kernel_rfl) (fun _ _ _ _ _ h => h) rfl ?_
          simp only [Mix.wpPlan, Mix.maskL, List.replicate]
          repeat (go_big_quiet_step (fail))
          refine wpQuiet_nil ?_
          refine Mix.wpAny_tail (List.replicate 12 false ++ [true]) (Array.replicate 13 true) (by kernel_rfl) (by kernel_rfl) ?_
          simp only [Mix.maskL, List.replicate, List.cons_append, List.nil_append]
          have HBr6 : Hid (Brr (w6.setCell ⟨gv, a, Option.none⟩ (.int .i64 py)) (w.heap.size + 2) w.heap.size { T with ws := putV T.ws a true, ks := T.ks.set a px, vs := T.vs.set a py, cs := T.cs.set j (cx + 1) } { h3 with aw := a4, cw := p4 }) := Lib.hid (HBr5.out.set_v (j := a) py HK.out)
          have HBw6 : Hid (Below w.heap.size w (w6.setCell ⟨gv, a, Option.none⟩ (.int .i64 py))) := Lib.hid (HBw5.out.setCell (p := ⟨gv, a, Option.none⟩) (by show w.heap.size ≤ gv; omega) _)
          have HD6 := Lib.hid (HD5.out.other ⟨gv, a, Option.none⟩ (.int .i64 py) (by show gv ≠ w.heap.size + 1; omega))
          have c5 : w6.cell? ⟨w.heap.size, 5, Option.none⟩ = some (.int .u64 T.laid) := HBr5.out.box.c5
          have ff : w6.frozen? ⟨w.heap.size, 5, Option.none⟩ = false := HBr5.out.box.f 5
          have hgn : gv ≠ w.heap.size := by omega
          go_wp2
          go_roundw
          case rel =>
            refine ⟨k + 1, by omega, by go_num, { h3 with aw := a4, cw := p4 }, by rw [HTT.out, HV.out]; exact (HBr6.out.set_laid (IntKind.u64.wrap (T.laid + 1))).below (Below.refl _ _).drew, ?_, ?_⟩
            · exact (HBw6.out.setCell (by simp) _).drew
            · exact (HD6.out.other ⟨w.heap.size, 5, Option.none⟩ _ (by simp)).below (Below.refl (w6.heap.size) _).drew (by have := HBr5.out.hl; omega)
          case measure => simp [intOf]; omega
        · obtain rfl : k = xs.length := by omega
          clear hk hlt HLK
          have c0 := HBr.out.box.c0; have c1 := HBr.out.box.c1; have c2 := HBr.out.box.c2; have c3 := HBr.out.box.c3; have c4 := HBr.out.box.c4; have c5 := HBr.out.box.c5
          obtain ⟨d0, d1, d2, d3, d4, d5, f⟩ := HBx.out
          have f0 := f 0; have f1 := f 1; have f2 := f 2; have f3 := f 3; have f4 := f 4; have f5 := f 5
          clear f
          generalize hL : D xs.length = L at *
          have HL := Lib.hid hL
          clear hL
          go_wp2
          have B6 := stS_own (s := L) (h := h3) HBr.out.own (show w.heap.size + 1 < w.heap.size + 2 by omega)
          refine bodyPost_ret (v := .agg #[.int .i64 L.seg, .slice h3.aw L.ws.length h3.cw, .slice h3.ak L.ks.length h3.ck, .slice h3.av L.vs.length h3.cv, .slice h3.ac L.cs.length h3.cc, .int .u64 L.laid]) (by clear B6; simp [results, Try.results42, go_sem, *]) rfl ⟨h3, by rw [HL.out], ?_, ?_⟩
          · rw [HL.out]; exact B6.mono (by omega) (by simp)
          · exact stS_below (p := w.heap.size + 1) (s := L) (h := h3) HBl.out (by omega)
end Go.Proofs.Ytfdkaahkhgljdaa.Slo
