/- A part that is filled has just these pairs: the plain law. What came in: two numbers in a box, pairs. Contracts of package slots: the document's Filled. Contracts of package slots: the document's Fill. What came in: a pair; how long answers are. Package seek, in plain Lean: keys that rise, how many are below one, and where they stand. Contracts of package seek: Check. Contracts of package seek: split, from. -/
import Derived.Test.YthkhideonceibaaDoorMak
set_option linter.unusedSimpArgs false
set_option linter.unusedVariables false
namespace Go.Proofs.YthkhideonceibaaDoor.Slo
open Go.RowKit Go.Shelf Go.Sort Go.Proofs.YthkhideonceibaaDoor Go.Proofs.YthkhideonceibaaDoor.Occ Go.Proofs.YthkhideonceibaaDoor.Frac

theorem sorted_ext : ∀ (a b : List Nat), a.Pairwise (· < ·) → b.Pairwise (· < ·) → (∀ i, i ∈ a ↔ i ∈ b) → a = b
  | [], [], _, _, _ => rfl
  | [], y :: b, _, _, h => by have := (h y).2 (List.mem_cons_self); simp at this
  | x :: a, [], _, _, h => by have := (h x).1 (List.mem_cons_self); simp at this
  | x :: a, y :: b, ha, hb, h => by
    obtain ⟨h1, ha'⟩ := List.pairwise_cons.1 ha
    obtain ⟨h2, hb'⟩ := List.pairwise_cons.1 hb
    have hxy : x = y := by
      rcases List.mem_cons.1 ((h x).1 List.mem_cons_self) with e | m
      · exact e
      · rcases List.mem_cons.1 ((h y).2 List.mem_cons_self) with e | m2
        · exact e.symm
        · have := h2 x m; have := h1 y m2; omega
    subst hxy
    rw [sorted_ext a b ha' hb' fun i => ?_]
    constructor
    · intro m
      rcases List.mem_cons.1 ((h i).1 (List.mem_cons_of_mem _ m)) with e | m2
      · have := h1 i m; omega
      · exact m2
    · intro m
      rcases List.mem_cons.1 ((h i).2 (List.mem_cons_of_mem _ m)) with e | m2
      · have := h2 i m; omega
      · exact m2
theorem occs_eq {ws : List Int} {f d : Nat} {L : List Nat} (hL : L.Pairwise (· < ·)) (hm : ∀ i, i ∈ L ↔ (f ≤ i ∧ i < f + d) ∧ occB ws i = true) : occs ws f d = L := by
  refine sorted_ext _ _ ?_ hL fun i => ?_
  · unfold occs
    exact List.Pairwise.filter _ List.pairwise_lt_range'
  · rw [hm i]
    unfold occs
    rw [List.mem_filter, List.mem_range'_1]

theorem clr_facts {s : Sl} {g q n f : Nat} (h : Is s g q n) : ∀ k, f + k ≤ n → (∀ i, occB (clrV s f k).ws i = if f ≤ i ∧ i < f + k then false else occB s.ws i) ∧ (∀ i, (i < f ∨ f + k ≤ i) → pairAt (clrV s f k) i = pairAt s i) ∧ (clrV s f k).laid = s.laid
  | 0, _ => ⟨fun i => by rw [if_neg (by omega)]; rfl, fun _ _ => rfl, rfl⟩
  | k + 1, hk => by
    obtain ⟨h1, h2, h3⟩ := clr_facts (f := f) h k (by omega)
    have H := h.clr k (f := f) (by omega)
    have hlt : f + k < (clrV s f k).ks.length := by rw [H.n]; omega
    refine ⟨fun i => ?_, fun i hi => ?_, h3⟩
    · show occB (takeV (clrV s f k) (f + k)).ws i = _
      rw [take_occ H.o H.u hlt, h1]
      by_cases e : i = f + k
      · rw [if_pos e, if_pos (by omega)]
      · rw [if_neg e]
        by_cases e2 : f ≤ i ∧ i < f + k
        · rw [if_pos e2, if_pos (by omega)]
        · rw [if_neg e2, if_neg (by omega)]
    · show pairAt (takeV (clrV s f k) (f + k)) i = _
      rw [pair_take H.o hlt, if_neg (by omega), h2 i (by omega)]

/-- Strictly rising. -/
def RisesV (xs : List Int) : Prop := ∀ j k, j < k → k < xs.length → xs.getD j 0 < xs.getD k 0
theorem rises_of {f t : Int} {xs : List Int} (h : partB f t xs = true) : RisesV xs := by
  intro j k hjk hk
  induction k with
  | zero => omega
  | succ k ih =>
    have h1 := (partB_iff.1 h (k + 1) hk).1
    simp only [prevV, Nat.add_sub_cancel, if_neg (Nat.succ_ne_zero k)] at h1
    rcases Nat.lt_or_ge j k with h2 | h2
    · have := ih h2 (by omega); omega
    · obtain rfl : j = k := by omega
      exact h1

theorem lay_facts {s : Sl} {g q n : Nat} (h : Is s g q n) {xs : List Int} {ps : List (Int × Int)} (hx : ∀ k, k < xs.length → 0 ≤ xs.getD k 0 ∧ xs.getD k 0 < n) (hr : RisesV xs) : ∀ k, k ≤ xs.length →
    (∀ j, j < k → occB (layL s xs ps k).ws (xs.getD j 0).toNat = true ∧ pairAt (layL s xs ps k) (xs.getD j 0).toNat = ps.getD j (0, 0)) ∧
    (∀ i : Nat, (∀ j, j < k → xs.getD j 0 ≠ i) → occB (layL s xs ps k).ws i = occB s.ws i ∧ pairAt (layL s xs ps k) i = pairAt s i) ∧ (layL s xs ps k).laid = IntKind.u64.wrap (s.laid + k)
  | 0, _ => ⟨fun j hj => by omega, fun _ _ => ⟨rfl, rfl⟩, by
      show s.laid = _
      rw [IntKind.wrap_u64]; have := h.l; omega⟩
  | k + 1, hk => by
    obtain ⟨h1, h2, h3⟩ := lay_facts h hx hr k (by omega) (ps := ps)
    have H := h.layL hx (ps := ps) k (by omega)
    have hxk := hx k (by omega)
    have hlt : (xs.getD k 0).toNat < (layL s xs ps k).ks.length := by rw [H.n]; omega
    have O := lay_occ H.o H.u hlt (ps.getD k (0, 0)).1 (ps.getD k (0, 0)).2
    have Q := pair_lay H.o H.u hlt (ps.getD k (0, 0)).1 (ps.getD k (0, 0)).2
    refine ⟨fun j hj => ?_, fun i hi => ?_, ?_⟩
    · show occB (layV (layL s xs ps k) _ _ _).ws _ = true ∧ pairAt (layV (layL s xs ps k) _ _ _) _ = _
      rw [O, Q]
      by_cases e : j = k
      · subst e; rw [if_pos rfl, if_pos rfl]; exact ⟨rfl, rfl⟩
      · have hlt2 := hr j k (by omega) (by omega)
        have hxj := hx j (by omega)
        have e2 : (xs.getD j 0).toNat ≠ (xs.getD k 0).toNat := by omega
        rw [if_neg e2, if_neg e2]; exact h1 j (by omega)
    · show occB (layV (layL s xs ps k) _ _ _).ws _ = _ ∧ pairAt (layV (layL s xs ps k) _ _ _) _ = _
      have e := hi k (by omega)
      have e2 : i ≠ (xs.getD k 0).toNat := by omega
      rw [O, Q, if_neg e2, if_neg e2]; exact h2 i fun j hj => hi j (by omega)
    · show IntKind.u64.wrap ((layL s xs ps k).laid + 1) = _
      rw [h3, IntKind.wrap_u64, IntKind.wrap_u64, IntKind.wrap_u64]; have := h.l; omega

/-- What the law asks of what was filled. -/
structure Whole (s : Sl) (f t : Int) (xs : List Int) (ps : List (Int × Int)) (X : Sl) : Prop where
  wx : X.Wf
  lk : X.ks.length = s.ks.length
  len : xs.length = ps.length
  pin : prsV X f t = (ps, 0)
  pa : prsV X 0 f = prsV s 0 f ∧ (prsV s 0 f).2 = 0
  pc : prsV X t X.ks.length = prsV s t s.ks.length ∧ (prsV s t s.ks.length).2 = 0
  at_ : ∀ k, k < xs.length → atV X (xs.getD k 0) = (ps.getD k (0, 0), 0)
  laid : X.laid = IntKind.u64.wrap (s.laid + ps.length)
  ck : chkS X = 0
theorem fillSV_no {s : Sl} {f t : Int} {xs : List Int} {ps : List (Int × Int)} (h : (fillSV s f t xs ps).2 ≠ 0) : (fillSV s f t xs ps).1 = noneS := by
  unfold fillSV at *
  split
  · rfl
  · split
    · rfl
    · rename_i h1 h2; rw [if_neg h1, if_neg h2] at h; exact absurd rfl h
theorem whole_of {s : Sl} {f t : Int} {xs : List Int} {ps : List (Int × Int)} (hu : U64 s.ws) (hl : 0 ≤ s.laid ∧ s.laid < 18446744073709551616) (h : (fillSV s f t xs ps).2 = 0) :
    ∃ X, fillSV s f t xs ps = (X, 0) ∧ Whole s f t xs ps X := by
  unfold fillSV at h ⊢
  by_cases h1 : askS s (inB s.ks.length f t) ≠ 0
  · rw [if_pos h1] at h; exact absurd h h1
  rw [if_neg h1] at h ⊢
  by_cases h2 : xs.length ≠ ps.length ∨ partB f t xs = false
  · rw [if_pos h2] at h; simp at h
  rw [if_neg h2]
  obtain ⟨hk, hin⟩ := askS_ok (Classical.not_not.1 h1)
  obtain ⟨h0, hft, htn⟩ := inB_iff.1 hin
  have hlen : xs.length = ps.length := Classical.not_not.1 fun e => h2 (.inl e)
  have hp : partB f t xs = true := by cases e : partB f t xs with
    | true => rfl
    | false => exact absurd (.inr e) h2
  obtain ⟨f, rfl⟩ := Int.eq_ofNat_of_zero_le h0
  obtain ⟨t, rfl⟩ := Int.eq_ofNat_of_zero_le (show 0 ≤ t by omega)
  obtain ⟨g, q, o⟩ := okS_iff.1 hk
  have I : Is s g q s.ks.length := ⟨o, hu, hl, rfl⟩
  have hft : f ≤ t := by omega
  have htn : t ≤ s.ks.length := by omega
  have IY := I.clr (f := f) (t - f) (by omega)
  obtain ⟨c1, c2, c3⟩ := clr_facts (f := f) I (t - f) (by omega)
  have hge := partB_ge hp
  have hlt : ∀ k, k < xs.length → xs.getD k 0 < (t : Int) := fun k hk => (partB_iff.1 hp k hk).2
  have hx : ∀ k, k < xs.length → 0 ≤ xs.getD k 0 ∧ xs.getD k 0 < (s.ks.length : Int) := fun k hk => by have := hge k hk; have := hlt k hk; omega
  have hr := rises_of hp
  have IX := IY.layL (ps := ps) hx xs.length (Nat.le_refl _)
  obtain ⟨d1, d2, d3⟩ := lay_facts IY (ps := ps) hx hr xs.length (Nat.le_refl _)
  simp only [Int.toNat_natCast]
  have eX : fillV s f t xs ps = layL (clrV s f (t - f)) xs ps xs.length := rfl
  rw [← eX] at IX d1 d2 d3
  generalize fillV s f t xs ps = X at *
  have lX := IX.n
  have out : ∀ i : Nat, (i < f ∨ t ≤ i) → occB X.ws i = occB s.ws i ∧ pairAt X i = pairAt s i := fun i hi => by
    obtain ⟨e1, e2⟩ := d2 i fun j hj => by have := hge j hj; have := hlt j hj; omega
    rw [e1, e2, c1, if_neg (by omega)]
    exact ⟨rfl, c2 i (by omega)⟩
  have hask : ∀ {Z : Sl} {b : Bool}, okS Z = true → b = true → askS Z b = 0 := fun hz hb => by rw [hb]; exact askS_in hz
  have oX := IX.o.ok
  have side : ∀ a d : Nat, (a + d ≤ f ∨ t ≤ a) → prs X a d = prs s a d := fun a d had => by
    unfold prs
    rw [occs_congr (ws := X.ws) (ws' := s.ws) fun i h3 h4 => (out i (by omega)).1]
    refine List.map_congr_left fun i hi => (out i ?_).2
    unfold occs at hi
    have := (List.mem_filter.1 hi).1
    rw [List.mem_range'_1] at this
    omega
  refine ⟨X, rfl, IX.o.wf IX.u IX.l, lX, hlen, ?_, ⟨?_, ?_⟩, ⟨?_, ?_⟩, ?_, ?_, ?_⟩
  · unfold prsV
    rw [if_pos (hask oX (by rw [lX]; exact inB_iff.2 (by omega)))]
    simp only [Int.toNat_natCast]
    rw [show ((t : Int) - (f : Int)).toNat = t - f by omega]
    have e : occs X.ws f (t - f) = (List.range xs.length).map fun j => (xs.getD j 0).toNat := by
      refine occs_eq ?_ fun i => ?_
      · rw [List.pairwise_map]
        refine List.Pairwise.imp_of_mem ?_ (List.pairwise_lt_range (n := xs.length))
        intro a b ha hb hab
        have := hr a b hab (List.mem_range.1 hb)
        have := hx a (List.mem_range.1 ha)
        omega
      · rw [List.mem_map]
        constructor
        · rintro ⟨j, hj, rfl⟩
          have hj := List.mem_range.1 hj
          have := hge j hj; have := hlt j hj
          exact ⟨by omega, (d1 j hj).1⟩
        · rintro ⟨hi, ho⟩
          refine Classical.byContradiction fun hno => ?_
          have := (d2 i fun j hj e => hno ⟨j, List.mem_range.2 hj, by omega⟩).1
          rw [c1, if_pos (by omega)] at this
          rw [this] at ho; cases ho
    unfold prs
    rw [e, List.map_map]
    congr 1
    refine List.ext_getElem? fun j => ?_
    by_cases hj : j < xs.length
    · have hj2 : j < ps.length := by omega
      simp [List.getElem?_map, List.getElem?_range, hj]
      have := (d1 j hj).2
      simp [List.getD_eq_getElem?_getD, hj, hj2] at this
      simp [List.getElem?_eq_getElem hj2, this]
    · rw [List.getElem?_eq_none (by simp; omega), List.getElem?_eq_none (by omega)]
  · unfold prsV
    rw [if_pos (hask oX (by rw [lX]; exact inB_iff.2 (by omega))), if_pos (hask hk (inB_iff.2 (by omega)))]
    rw [side _ _ (by omega)]
  · unfold prsV
    rw [if_pos (hask hk (inB_iff.2 (by omega)))]
  · unfold prsV
    rw [if_pos (hask oX (inB_iff.2 (by omega))), if_pos (hask hk (inB_iff.2 (by omega))), lX]
    rw [side _ _ (by omega)]
  · unfold prsV
    rw [if_pos (hask hk (inB_iff.2 (by omega)))]
  · intro k hk'
    obtain ⟨e1, e2⟩ := d1 k hk'
    have h3 := hx k hk'
    have e3 := atV_of oX (a := (xs.getD k 0).toNat) (by omega)
    rw [Int.toNat_of_nonneg h3.1, if_pos e1, e2] at e3
    exact e3
  · rw [d3, c3, hlen]
  · unfold chkS; rw [if_pos oX]
end Go.Proofs.YthkhideonceibaaDoor.Slo

namespace Go.Proofs.YthkhideonceibaaDoor.Slo
open Go.RowKit Go.Shelf Go.Sort Go.Proofs.YthkhideonceibaaDoor Go.Proofs.YthkhideonceibaaDoor.Occ Go.Proofs.YthkhideonceibaaDoor.Frac

/-- What is told of pairs that came in. -/
structure ArgP (w : World) (a : Option Addr) (len cap : Nat) (ps : List (Int × Int)) : Prop where
  hlen : ps.length = len
  hrd : Rd2 w a ps
  hnil : a = Option.none → cap = 0
  hcap : len ≤ cap
  hbig : cap ≤ 9223372036854775807
theorem argP_of {w : World} {a : Option Addr} {len cap : Nat} {zs : List (Int × Int)} (h : Opn.IsRow2 w a len cap zs) : ArgP w a len cap zs := by
  obtain ⟨hl, h⟩ := h
  rcases h with ⟨rfl, rfl, rfl⟩ | ⟨x, rfl, hc, hm, hz⟩
  · exact ⟨hl, .inl (List.eq_nil_of_length_eq_zero hl), fun _ => rfl, Nat.le_refl _, by omega⟩
  · refine ⟨hl, ?_, (by intro h; cases h), hc, (by unfold maxLen at hm; omega)⟩
    rcases Nat.eq_zero_or_pos zs.length with h0 | h0
    · exact .inl (List.eq_nil_of_length_eq_zero h0)
    · right
      obtain ⟨b, o, s⟩ := x
      obtain rfl : s = Option.none := by simpa [Addr.add] using World.cell?_spot (hz 0 h0).1
      refine ⟨b, o, rfl, ?_, fun i hi => ?_⟩
      · exact World.block_lt_of_cell? w ⟨b, o, Option.none⟩ (by have := (hz 0 h0).1; rwa [Nat.zero_mul, Addr.add_lit, Nat.add_zero] at this)
      · have h1 := (hz i hi).1
        have h2 := (hz i hi).2.1
        rw [Addr.add_lit] at h1 h2
        rw [← Nat.add_assoc] at h2
        exact ⟨h1, h2⟩
end Go.Proofs.YthkhideonceibaaDoor.Slo

namespace Go.Proofs.YthkhideonceibaaDoor.Slo
open Go.RowKit Go.Shelf Go.Sort Go.Proofs.YthkhideonceibaaDoor Go.Proofs.YthkhideonceibaaDoor.Occ Go.Proofs.YthkhideonceibaaDoor.Frac
attribute [local go_sem] Oper.semAt_some

theorem set_id {l : List Int} {i : Nat} {x : Int} (h : l.getD i 0 = x) (hi : i < l.length) : l.set i x = l := by
  subst h
  refine List.ext_getElem? fun j => ?_
  rw [List.getElem?_set]
  by_cases e : i = j
  · subst e; simp [hi, List.getD_eq_getElem?_getD]
  · simp [e]
theorem take_idle {s : Sl} {g q a : Nat} (o : Ok s g q) (hu : U64 s.ws) (ha : a < s.ks.length) (h : occB s.ws a = false) : takeV s a = s := by
  obtain ⟨z1, z2⟩ := o.blank a ha h
  have hw := putV_same hu h (o.in ha)
  have hk := set_id z1 ha
  have hv := set_id z2 (by rw [o.v]; exact ha)
  clear o hu
  obtain ⟨sg, ws, ks, vs, cs, ld⟩ := s
  unfold takeV
  dsimp only at *
  rw [hw, hk, hv, h]
  rfl
/-- One more pair is laid where there was none. -/
theorem layL_step {s : Sl} {g q n f t : Nat} (h : Is s g q n) (hft : f ≤ t) (htn : t ≤ n) {xs : List Int} {ps : List (Int × Int)} (hp : partB f t xs = true) {k : Nat} (hk : k < xs.length) :
    layL (clrV s f (t - f)) xs ps (k + 1) = setV (layL (clrV s f (t - f)) xs ps k) (xs.getD k 0).toNat (ps.getD k (0, 0)).1 (ps.getD k (0, 0)).2 ∧ occB (layL (clrV s f (t - f)) xs ps k).ws (xs.getD k 0).toNat = false := by
  have hx : ∀ k, k < xs.length → 0 ≤ xs.getD k 0 ∧ xs.getD k 0 < n := fun k hk => by
    have := partB_ge hp k hk; have := (partB_iff.1 hp k hk).2; omega
  have hr := rises_of hp
  have IY := h.clr (f := f) (t - f) (by omega)
  obtain ⟨c1, -, -⟩ := clr_facts (f := f) h (t - f) (by omega)
  have D := (lay_facts IY (ps := ps) hx hr k (by omega)).2.1 (xs.getD k 0).toNat (fun j hj => by have := hr j k hj hk; have := hx j (by omega); omega)
  have h1 := hx k hk
  have h2 := partB_ge hp k hk
  have h3 := (partB_iff.1 hp k hk).2
  have hf : occB (layL (clrV s f (t - f)) xs ps k).ws (xs.getD k 0).toNat = false := by rw [D.1, c1, if_pos (by omega)]
  have IX := IY.layL (ps := ps) hx k (by omega)
  refine ⟨?_, hf⟩
  show setV (takeV (layL (clrV s f (t - f)) xs ps k) _) _ _ _ = _
  rw [take_idle IX.o IX.u (by rw [IX.n]; omega) hf]
/-- What is known of a slot that is turned. -/
structure Rnd (T : Sl) (g A : Nat) : Prop where
  hk : A < T.ks.length
  hv : A < T.vs.length
  hc : A / g < T.cs.length
  seg : T.seg = (g : Int)
  cnt : 0 ≤ T.cs.getD (A / g) 0 ∧ T.cs.getD (A / g) 0 ≤ 64
  n1 : T.ks.length ≤ 65536
  u : U64 T.ws
  lw : T.ws.length ≤ 100000
  in_ : A < 64 * T.ws.length
  l : 0 ≤ T.laid ∧ T.laid < 18446744073709551616
def FilI (w wr : World) (S : Sl) : Prop := ∃ h2 : Hd, Brr wr (w.heap.size + 2) w.heap.size S h2 ∧ Below w.heap.size w wr ∧ BoxZ wr (w.heap.size + 1)
theorem Is.rnd {T : Sl} {g q n A : Nat} (i : Is T g q n) (h : A < n) : Rnd T g A := by
  have ha : A < T.ks.length := by rw [i.n]; exact h
  have c := i.o.count ha
  have W := i.o.wf i.u i.l
  exact ⟨ha, by rw [i.o.v]; exact ha, by rw [i.o.c]; exact (seg_of i.o.g4 i.o.n ha).1, i.o.seg, ⟨c.1, c.2.1⟩, i.o.n1, i.u, W.lw, i.o.in ha, i.l⟩
theorem Rd.cellAt {k : IntKind} {w w1 : World} {b o : Nat} {zs : List Int} {n i : Nat} (h : Rd k w (some ⟨b, o, Option.none⟩) zs) (hb : Below n w w1) (hn : w.heap.size ≤ n) (hi : i < zs.length) : w1.cell? ⟨b, o + i, Option.none⟩ = some (.int k (zs.getD i 0)) := by
  obtain ⟨b', o', e, c⟩ := Rd.at h hb hn hi
  cases e; exact c
theorem Rd2.cellAt {w w1 : World} {b o : Nat} {P : List (Int × Int)} {n i : Nat} (h : Rd2 w (some ⟨b, o, Option.none⟩) P) (hb : Below n w w1) (hn : w.heap.size ≤ n) (hi : i < P.length) :
    w1.cell? ⟨b, o + i * 2, Option.none⟩ = some (.int .i64 (P.getD i (0, 0)).1) ∧ w1.cell? ⟨b, o + i * 2 + 1, Option.none⟩ = some (.int .i64 (P.getD i (0, 0)).2) := by
  obtain ⟨b', o', e, c⟩ := Rd2.at h hb hn hi
  cases e; exact c

end Go.Proofs.YthkhideonceibaaDoor.Slo

namespace Go.Proofs.YthkhideonceibaaDoor.Slo
open Go.RowKit Go.Shelf Go.Sort Go.Proofs.YthkhideonceibaaDoor Go.Proofs.YthkhideonceibaaDoor.Occ Go.Proofs.YthkhideonceibaaDoor.Frac
attribute [local go_sem] Oper.semAt_some

/-- A part that may be filled, as the document tells it. -/
theorem partB_ends {f t : Int} {xs : List Int} : partB f t xs = true ↔ risesB xs = true ∧ (0 < xs.length → f ≤ xs.getD 0 0 ∧ xs.getD (xs.length - 1) 0 < t) := by
  constructor
  · intro h
    have hr := rises_of h
    refine ⟨risesB_iff.2 fun i hi => hr i (i + 1) (by omega) hi, fun hl => ⟨partB_ge h 0 hl, (partB_iff.1 h (xs.length - 1) (by omega)).2⟩⟩
  · rintro ⟨h1, h2⟩
    have hr : ∀ j k, j < k → k < xs.length → xs.getD j 0 < xs.getD k 0 := by
      intro j k hjk hk
      induction k with
      | zero => omega
      | succ k ih =>
        have h3 := risesB_iff.1 h1 k hk
        rcases Nat.lt_or_ge j k with h | h
        · have := ih h (by omega); omega
        · obtain rfl : j = k := by omega
          exact h3
    refine partB_iff.2 fun k hk => ?_
    obtain ⟨h3, h4⟩ := h2 (by omega)
    constructor
    · unfold prevV
      by_cases e : k = 0
      · subst e; rw [if_pos rfl]; omega
      · rw [if_neg e]; exact hr (k - 1) k (by omega) hk
    · by_cases e : k = xs.length - 1
      · rw [e]; exact h4
      · have := hr k (xs.length - 1) (by omega) (by omega); omega

end Go.Proofs.YthkhideonceibaaDoor.Slo

namespace Go.Proofs.YthkhideonceibaaDoor.Slo
open Go.RowKit Go.Shelf Go.Sort Go.Proofs.YthkhideonceibaaDoor Go.Proofs.YthkhideonceibaaDoor.Occ Go.Proofs.YthkhideonceibaaDoor.Frac

/-- A pair as it comes in. -/
structure Pr where
  k : Int
  v : Int
def Pr.val (p : Pr) : Value := .agg #[.int .i64 p.k, .int .i64 p.v]
structure Pr.Ok (p : Pr) : Prop where
  wk : (Lit.int .i64 p.k).wf = true
  wv : (Lit.int .i64 p.v).wf = true
/-- The two boxes. -/
def inP (w : World) (s : Sl) (h : Hd) (a b : Int) : World := allocP (allocS w s h) a b
theorem inP_below (w : World) (s : Sl) (h : Hd) (a b : Int) : Below w.heap.size w (inP w s h a b) :=
  (allocS_below w s h).trans ((allocP_below _ a b).mono (by rw [allocS_size]; omega))
theorem inP_bs (w : World) (s : Sl) (h : Hd) (a b : Int) : BS (inP w s h a b) w.heap.size s h := (allocS_bs w s h).next (allocP_below _ a b)
theorem inP_bp (w : World) (s : Sl) (h : Hd) (a b : Int) : BP (inP w s h a b) (w.heap.size + 1) a b := by
  have := allocP_bp (allocS w s h) a b
  rwa [allocS_size] at this
/-- No longer than another. -/
structure LenLe (x s : Sl) : Prop where
  w : x.ws.length ≤ s.ws.length
  k : x.ks.length ≤ s.ks.length
  v : x.vs.length ≤ s.vs.length
  c : x.cs.length ≤ s.cs.length
theorem LenLe.refl (s : Sl) : LenLe s s := ⟨Nat.le_refl _, Nat.le_refl _, Nat.le_refl _, Nat.le_refl _⟩
theorem LenLe.trans {a b c : Sl} (h : LenLe a b) (k : LenLe b c) : LenLe a c := ⟨Nat.le_trans h.w k.w, Nat.le_trans h.k k.k, Nat.le_trans h.v k.v, Nat.le_trans h.c k.c⟩
theorem lenLe_none (s : Sl) : LenLe noneS s := ⟨Nat.zero_le _, Nat.zero_le _, Nat.zero_le _, Nat.zero_le _⟩
theorem lenLe_take (s : Sl) (a : Nat) : LenLe (takeV s a) s := by
  refine ⟨?_, ?_, ?_, ?_⟩ <;> unfold takeV <;> dsimp only
  · rw [putV_length]; exact Nat.le_refl _
  · rw [List.length_set]; exact Nat.le_refl _
  · rw [List.length_set]; exact Nat.le_refl _
  · split
    · rw [List.length_set]; exact Nat.le_refl _
    · exact Nat.le_refl _
theorem lenLe_set (s : Sl) (a : Nat) (x y : Int) : LenLe (setV s a x y) s := by
  refine ⟨?_, ?_, ?_, ?_⟩ <;> unfold setV <;> dsimp only
  · rw [putV_length]; exact Nat.le_refl _
  · rw [List.length_set]; exact Nat.le_refl _
  · rw [List.length_set]; exact Nat.le_refl _
  · rw [List.length_set]; exact Nat.le_refl _
theorem lenLe_lay (s : Sl) (a : Nat) (x y : Int) : LenLe (layV s a x y) s := (lenLe_set _ a x y).trans (lenLe_take s a)
theorem lenLe_clr (s : Sl) (f : Nat) : ∀ k, LenLe (clrV s f k) s
  | 0 => LenLe.refl s
  | k + 1 => (lenLe_take _ _).trans (lenLe_clr s f k)
theorem lenLe_layL (s : Sl) (xs : List Int) (ps : List (Int × Int)) : ∀ k, LenLe (layL s xs ps k) s
  | 0 => LenLe.refl s
  | k + 1 => (lenLe_lay _ _ _ _).trans (lenLe_layL s xs ps k)
theorem lenLe_fill (s : Sl) (f t : Nat) (xs : List Int) (ps : List (Int × Int)) : LenLe (fillV s f t xs ps) s := (lenLe_layL _ xs ps _).trans (lenLe_clr s f _)
theorem lenLe_laySV (s : Sl) (a x y : Int) : LenLe (laySV s a x y).1 s := by
  unfold laySV; split
  · exact lenLe_lay _ _ _ _
  · exact lenLe_none s
theorem lenLe_clearSV (s : Sl) (a : Int) : LenLe (clearSV s a).1 s := by
  unfold clearSV; split <;> first | exact lenLe_take _ _ | exact lenLe_none s
theorem lenLe_moveSV (s : Sl) (a b : Int) : LenLe (moveSV s a b).1 s := by
  unfold moveSV; split
  · exact lenLe_none s
  · split
    · exact lenLe_none s
    · split
      · exact lenLe_none s
      · exact (lenLe_lay _ _ _ _).trans (lenLe_take _ _)
theorem lenLe_fillSV (s : Sl) (f t : Int) (xs : List Int) (ps : List (Int × Int)) : LenLe (fillSV s f t xs ps).1 s := by
  unfold fillSV; split
  · exact lenLe_none s
  · split
    · exact lenLe_none s
    · exact lenLe_fill _ _ _ _ _
/-- Whether two of one number are the same: they are. -/
theorem same_refl (s : Sl) (h1 h2 : Hd) (w1 : World) (R1 : SRd w1 s h1) (R2 : SRd w1 s h2) (l : s.ws.length ≤ 1000000000 ∧ s.ks.length ≤ 1000000000 ∧ s.vs.length ≤ 1000000000 ∧ s.cs.length ≤ 1000000000) :
    Calls Tryd.prog 14 #[sval s h1, sval s h2] w1 fun e w' => e = .returned (.bool true) ∧ Below w1.heap.size w1 w' := by
  have h := sRefSame_any s s h1 h2 w1 R1 R2 l ⟨by omega, by omega, by omega, by omega⟩
  rwa [sameB_refl] at h
end Go.Proofs.YthkhideonceibaaDoor.Slo

namespace Go.Proofs.YthkhideonceibaaDoor.Seek
open Go.RowKit Go.Shelf Go.Sort Go.Proofs.YthkhideonceibaaDoor Go.Proofs.YthkhideonceibaaDoor.Occ Go.Proofs.YthkhideonceibaaDoor.Slo

/-- Do pairs' keys rise? -/
def riseB (l : List (Int × Int)) : Bool := (List.range l.length).all fun i => decide (i = 0) || decide ((l.getD (i - 1) (0, 0)).1 < (l.getD i (0, 0)).1)
theorem riseB_iff {l : List (Int × Int)} : riseB l = true ↔ ∀ i, i + 1 < l.length → (l.getD i (0, 0)).1 < (l.getD (i + 1) (0, 0)).1 := by
  unfold riseB
  rw [List.all_eq_true]
  constructor
  · intro h i hi
    have := h (i + 1) (List.mem_range.2 hi)
    simpa using this
  · intro h i hi
    have hi := List.mem_range.1 hi
    cases i with
    | zero => simp
    | succ i =>
      have := h i hi
      rw [show i + 1 - 1 = i from rfl, decide_eq_true this, Bool.or_true]
theorem riseB_no {l : List (Int × Int)} {i : Nat} (hi : i + 1 < l.length) (h : ¬ (l.getD i (0, 0)).1 < (l.getD (i + 1) (0, 0)).1) : riseB l = false := by
  rw [Bool.eq_false_iff]
  exact fun g => h (riseB_iff.1 g i hi)
theorem rise_lt {l : List (Int × Int)} (h : riseB l = true) : ∀ j i, i < j → j < l.length → (l.getD i (0, 0)).1 < (l.getD j (0, 0)).1 := by
  intro j
  induction j with
  | zero => intro i hi; omega
  | succ j ih =>
    intro i hi hj
    have h1 := riseB_iff.1 h j hj
    rcases Nat.lt_or_ge i j with h2 | h2
    · have := ih i h2 (by omega); omega
    · obtain rfl : i = j := by omega
      exact h1
def allP (s : Sl) : List (Int × Int) := prs s 0 s.ks.length
def slotsL (s : Sl) : List Nat := occs s.ws 0 s.ks.length
theorem allP_eq (s : Sl) : allP s = (slotsL s).map (pairAt s) := rfl
theorem allP_length (s : Sl) : (allP s).length = (slotsL s).length := by rw [allP_eq, List.length_map]
theorem allP_getD (s : Sl) {i : Nat} (h : i < (slotsL s).length) : (allP s).getD i (0, 0) = pairAt s ((slotsL s).getD i 0) := by
  rw [allP_eq]
  simp [List.getD_eq_getElem?_getD, h]
def chkK (s : Sl) : Int := if okS s = true then (if riseB (allP s) = true then 0 else 130) else 8
theorem chkK_ok {s : Sl} (h : chkK s = 0) : okS s = true ∧ riseB (allP s) = true := by
  unfold chkK at h
  split at h
  · rename_i h1
    split at h
    · exact ⟨h1, by assumption⟩
    · simp at h
  · simp at h
/-- How many keys are below one. -/
def bel (l : List (Int × Int)) (key : Int) : Nat := l.countP (fun p => decide (p.1 < key))
theorem bel_le (l : List (Int × Int)) (key : Int) : bel l key ≤ l.length := List.countP_le_length
theorem bel_iff : ∀ {l : List (Int × Int)} (_ : riseB l = true) (key : Int) {i : Nat}, i < l.length → ((l.getD i (0, 0)).1 < key ↔ i < bel l key)
  | [], _, _, _, h => by simp at h
  | p :: l, hr, key, i, hi => by
    have hr' : riseB l = true := riseB_iff.2 fun j hj => by
      have := riseB_iff.1 hr (j + 1) (by simp; omega)
      simpa using this
    have ih := fun {j : Nat} (hj : j < l.length) => bel_iff hr' key hj
    unfold bel
    rw [List.countP_cons]
    by_cases hp : p.1 < key
    · simp only [hp, decide_true, if_true]
      cases i with
      | zero => simp [hp]
      | succ i =>
        have := ih (j := i) (by simp at hi; omega)
        unfold bel at this
        simp only [List.getD_cons_succ]
        omega
    · have h0 : l.countP (fun p => decide (p.1 < key)) = 0 := by
        rw [List.countP_eq_zero]
        intro q hq
        obtain ⟨j, hj, rfl⟩ := List.getElem_of_mem hq
        have := rise_lt hr (j + 1) 0 (by omega) (by simp; omega)
        simp [List.getD_eq_getElem?_getD, hj] at this
        simp; omega
      rw [h0]
      simp only [hp, decide_false]
      have : ¬ ((p :: l).getD i (0, 0)).1 < key := by
        cases i with
        | zero => simpa using hp
        | succ i =>
          have := rise_lt hr (i + 1) 0 (by omega) hi
          simp only [List.getD_cons_zero] at this
          omega
      exact ⟨fun h => absurd h this, fun h => by simp at h⟩
/-- Occupied slots, in their order. -/
theorem slots_sorted (s : Sl) : (slotsL s).Pairwise (· < ·) := by
  unfold slotsL occs
  exact List.Pairwise.filter _ List.pairwise_lt_range'
theorem slots_lt (s : Sl) {i j : Nat} (h : i < j) (hj : j < (slotsL s).length) : (slotsL s).getD i 0 < (slotsL s).getD j 0 := by
  have := List.pairwise_iff_getElem.1 (slots_sorted s) i j (by omega) hj h
  simpa [List.getD_eq_getElem?_getD, hj, show i < (slotsL s).length by omega] using this
theorem slots_mem (s : Sl) {i : Nat} (h : i < (slotsL s).length) : (slotsL s).getD i 0 < s.ks.length ∧ occB s.ws ((slotsL s).getD i 0) = true := by
  have hm : (slotsL s).getD i 0 ∈ slotsL s := by
    rw [show (slotsL s).getD i 0 = (slotsL s)[i] by simp [List.getD_eq_getElem?_getD, h]]
    exact List.getElem_mem _
  have := occs_mem.1 hm
  exact ⟨by omega, this.2.2⟩
theorem slots_at (s : Sl) {x : Nat} (h1 : x < s.ks.length) (h2 : occB s.ws x = true) : ∃ i, i < (slotsL s).length ∧ (slotsL s).getD i 0 = x := by
  have hm : x ∈ slotsL s := occs_mem.2 ⟨by omega, by omega, h2⟩
  obtain ⟨i, hi, e⟩ := List.getElem_of_mem hm
  exact ⟨i, hi, by simp [List.getD_eq_getElem?_getD, hi, e]⟩
/-- The first slot whose key is not below one; behind all: none. -/
def fromN (s : Sl) (key : Int) : Nat := if bel (allP s) key < (slotsL s).length then (slotsL s).getD (bel (allP s) key) 0 else s.ks.length
theorem from_le (s : Sl) (key : Int) : fromN s key ≤ s.ks.length := by
  unfold fromN
  split
  · have := (slots_mem s (by assumption)).1; omega
  · exact Nat.le_refl _
theorem from_occ {s : Sl} {key : Int} (h : fromN s key < s.ks.length) : bel (allP s) key < (slotsL s).length ∧ fromN s key = (slotsL s).getD (bel (allP s) key) 0 ∧ occB s.ws (fromN s key) = true := by
  unfold fromN at *
  split
  · rename_i h1
    exact ⟨h1, rfl, (slots_mem s h1).2⟩
  · rename_i h1; rw [if_neg h1] at h; omega
theorem from_none {s : Sl} {key : Int} (h : ¬ fromN s key < s.ks.length) : fromN s key = s.ks.length ∧ ¬ bel (allP s) key < (slotsL s).length := by
  have := from_le s key
  refine ⟨by omega, fun h1 => ?_⟩
  have e : fromN s key = (slotsL s).getD (bel (allP s) key) 0 := by unfold fromN; rw [if_pos h1]
  have := (slots_mem s h1).1
  omega
theorem from_iff {s : Sl} (hr : riseB (allP s) = true) (key : Int) {x : Nat} (h1 : x < s.ks.length) (h2 : occB s.ws x = true) : s.ks.getD x 0 < key ↔ x < fromN s key := by
  obtain ⟨i, hi, rfl⟩ := slots_at s h1 h2
  have h := bel_iff hr key (i := i) (by rw [allP_length]; exact hi)
  rw [allP_getD s hi] at h
  rw [show s.ks.getD ((slotsL s).getD i 0) 0 = (pairAt s ((slotsL s).getD i 0)).1 from rfl, h]
  unfold fromN
  split
  · rename_i hb
    constructor
    · intro hlt; exact slots_lt s hlt hb
    · intro hlt
      rcases Nat.lt_or_ge i (bel (allP s) key) with g | g
      · exact g
      · rcases Nat.lt_or_ge (bel (allP s) key) i with g2 | g2
        · have := slots_lt s g2 hi; omega
        · obtain e : i = bel (allP s) key := by omega
          rw [← e] at hlt; omega
  · constructor
    · intro _; exact h1
    · intro _; omega
/-- The slots ahead are those of the keys below. -/
theorem occs_from {s : Sl} (key : Int) : occs s.ws 0 (fromN s key) = (slotsL s).take (bel (allP s) key) := by
  refine occs_eq ?_ fun x => ?_
  · exact (slots_sorted s).sublist (List.take_sublist _ _)
  · have hb : bel (allP s) key ≤ (slotsL s).length := by have := bel_le (allP s) key; rw [allP_length] at this; exact this
    constructor
    · intro hm
      obtain ⟨i, hi, e⟩ := List.getElem_of_mem hm
      rw [List.length_take] at hi
      have hi2 : i < (slotsL s).length := by omega
      rw [List.getElem_take] at e
      have e2 : (slotsL s).getD i 0 = x := by simp [List.getD_eq_getElem?_getD, hi2, e]
      have := slots_mem s hi2
      rw [e2] at this
      refine ⟨⟨by omega, ?_⟩, this.2⟩
      unfold fromN
      split
      · rename_i h1
        have := slots_lt s (show i < bel (allP s) key by omega) h1
        omega
      · omega
    · rintro ⟨⟨_, hx⟩, ho⟩
      have hle := from_le s key
      obtain ⟨i, hi, e⟩ := slots_at s (show x < s.ks.length by omega) ho
      have hib : i < bel (allP s) key := by
        unfold fromN at hx
        split at hx
        · rename_i h1
          rcases Nat.lt_or_ge i (bel (allP s) key) with g | g
          · exact g
          · rcases Nat.lt_or_ge (bel (allP s) key) i with g2 | g2
            · have := slots_lt s g2 hi; omega
            · obtain e3 : i = bel (allP s) key := by omega
              rw [← e3] at hx; omega
        · omega
      rw [← e]
      rw [show (slotsL s).getD i 0 = ((slotsL s).take (bel (allP s) key))[i]'(by rw [List.length_take]; omega) by rw [List.getElem_take]; simp [List.getD_eq_getElem?_getD, hi]]
      exact List.getElem_mem _
def rankV (s : Sl) (key : Int) : Int × Int := if chkK s = 0 then ((bel (allP s) key : Int), 0) else (0, chkK s)
def nxtV (s : Sl) (key : Int) : Int × Int := if chkK s = 0 then (if bel (allP s) key < (slotsL s).length then (((slotsL s).getD (bel (allP s) key) 0 : Nat), 0) else (0, 6)) else (0, chkK s)
def findV (s : Sl) (key : Int) : Int × Int := if (nxtV s key).2 = 0 then (if s.ks.getD (nxtV s key).1.toNat 0 = key then nxtV s key else (0, 6)) else (0, (nxtV s key).2)
def lasV (s : Sl) (key : Int) : Int × Int := if chkK s = 0 then (if bel (allP s) key = 0 then (0, 6) else (((slotsL s).getD (bel (allP s) key - 1) 0 : Nat), 0)) else (0, chkK s)
theorem chk_slots {s : Sl} (h : okS s = true) : chkV s.ws (s.ks.length : Int) = 0 := by
  obtain ⟨g, q, o⟩ := okS_iff.1 h
  have := chkV_in (ws := s.ws) o.n1
  rw [this, if_pos (mayB_iff.2 ⟨o.w, o.z⟩)]
theorem cnt_from {s : Sl} {key : Int} (h : chkK s = 0) : cntV s.ws s.ks.length 0 (fromN s key) = rankV s key := by
  have hc := chk_slots (chkK_ok h).1
  have hle := from_le s key
  unfold cntV rankV
  rw [if_pos h, if_pos (ask_ok hc (inB_iff.2 ⟨by omega, by omega, by omega⟩))]
  simp only [Int.toNat_zero, Int.sub_zero, Int.toNat_natCast]
  rw [occs_from, List.length_take]
  have := bel_le (allP s) key
  rw [allP_length] at this
  rw [Nat.min_eq_left this]
theorem nxt_from {s : Sl} {key : Int} (h : chkK s = 0) : nxtV s key = if fromN s key < s.ks.length then ((fromN s key : Int), 0) else (0, 6) := by
  unfold nxtV
  rw [if_pos h]
  by_cases h1 : fromN s key < s.ks.length
  · obtain ⟨h2, h3, _⟩ := from_occ h1
    rw [if_pos h1, if_pos h2, h3]
  · rw [if_neg h1, if_neg (from_none h1).2]
theorem last_from {s : Sl} {key : Int} (h : chkK s = 0) : lastV s.ws s.ks.length (fromN s key) = lasV s key := by
  have hc := chk_slots (chkK_ok h).1
  have hle := from_le s key
  have hb := bel_le (allP s) key
  rw [allP_length] at hb
  unfold lastV lasV
  rw [if_pos h, if_pos (ask_ok hc (upB_iff.2 ⟨by omega, by omega⟩))]
  simp only [Int.toNat_natCast]
  rw [occs_from]
  unfold endV
  rw [List.length_take, Nat.min_eq_left hb]
  by_cases h0 : bel (allP s) key = 0
  · rw [if_pos h0, if_pos h0]
  · rw [if_neg h0, if_neg h0]
    have : ((slotsL s).take (bel (allP s) key)).getD (bel (allP s) key - 1) 0 = (slotsL s).getD (bel (allP s) key - 1) 0 := by
      simp only [List.getD_eq_getElem?_getD]
      rw [List.getElem?_take_of_lt (by omega)]
    rw [this]
/-- What the next occupied slot is. -/
theorem next_cases {s : Sl} (h : okS s = true) {p : Nat} (hp : p ≤ s.ks.length) :
    (nextV s.ws s.ks.length p = (0, 6) ∧ ∀ i, p ≤ i → i < s.ks.length → occB s.ws i = false) ∨
    ∃ a : Nat, nextV s.ws s.ks.length p = ((a : Int), 0) ∧ p ≤ a ∧ a < s.ks.length ∧ occB s.ws a = true ∧ ∀ i, p ≤ i → i < a → occB s.ws i = false := by
  have hc := chk_slots h
  have e : nextV s.ws s.ks.length p = firstV (occs s.ws p (s.ks.length - p)) := by
    unfold nextV
    rw [if_pos (ask_ok hc (upB_iff.2 ⟨by omega, by omega⟩)), Int.toNat_natCast, show ((s.ks.length : Int) - (p : Int)).toNat = s.ks.length - p by omega]
  rw [e]
  cases hl : occs s.ws p (s.ks.length - p) with
  | nil =>
    left
    refine ⟨rfl, fun i h1 h2 => ?_⟩
    cases ho : occB s.ws i
    · rfl
    · have : i ∈ occs s.ws p (s.ks.length - p) := occs_mem.2 ⟨h1, by omega, ho⟩
      rw [hl] at this; cases this
  | cons a l =>
    right
    have ha : a ∈ occs s.ws p (s.ks.length - p) := by rw [hl]; exact List.mem_cons_self
    obtain ⟨h1, h2, h3⟩ := occs_mem.1 ha
    refine ⟨a, by unfold firstV; simp, h1, by omega, h3, fun i h4 h5 => ?_⟩
    cases ho : occB s.ws i
    · rfl
    · have hm : i ∈ occs s.ws p (s.ks.length - p) := occs_mem.2 ⟨h4, by omega, ho⟩
      rw [hl] at hm
      have hs : (occs s.ws p (s.ks.length - p)).Pairwise (· < ·) := by unfold occs; exact List.Pairwise.filter _ List.pairwise_lt_range'
      rw [hl] at hs
      rcases List.mem_cons.1 hm with e | m
      · omega
      · have := (List.pairwise_cons.1 hs).1 i m; omega
/-- What is told of a slot between. -/
structure Cut (s : Sl) (r from_ to_ : Nat) : Prop where
  le : from_ ≤ to_
  top : to_ ≤ s.ks.length
  lo : ∀ i, i < from_ → i < s.ks.length → occB s.ws i = true → i < r
  hi : ∀ i, to_ ≤ i → i < s.ks.length → occB s.ws i = true → r ≤ i
theorem Cut.start (s : Sl) (r : Nat) : Cut s r 0 s.ks.length := ⟨Nat.zero_le _, Nat.le_refl _, fun i h => by omega, fun i h1 h2 => by omega⟩
theorem Cut.none {s : Sl} {r f t m : Nat} (c : Cut s r f t) (h1 : f ≤ m) (h2 : m ≤ t) (h : ∀ i, m ≤ i → i < s.ks.length → occB s.ws i = false) : Cut s r f m :=
  ⟨h1, Nat.le_trans h2 c.top, c.lo, fun i a b o => by rw [h i a b] at o; cases o⟩
theorem Cut.down {s : Sl} {r f t m a : Nat} (c : Cut s r f t) (h1 : f ≤ m) (h2 : m ≤ t) (h : ∀ i, m ≤ i → i < a → occB s.ws i = false) (ha : t ≤ a ∨ r ≤ a) : Cut s r f m :=
  ⟨h1, Nat.le_trans h2 c.top, c.lo, fun i x y o => by
    rcases Nat.lt_or_ge i a with g | g
    · rw [h i x g] at o; cases o
    · rcases ha with h | h
      · exact c.hi i (by omega) y o
      · omega⟩
theorem Cut.up {s : Sl} {r f t a : Nat} (c : Cut s r f t) (h1 : a < t) (h2 : a < r) : Cut s r (a + 1) t :=
  ⟨h1, c.top, fun i x y o => by omega, c.hi⟩
theorem Cut.last {s : Sl} {r f : Nat} (c : Cut s r f f) (hr : r ≤ s.ks.length) (ho : r < s.ks.length → occB s.ws r = true) (hok : okS s = true) :
    (nextV s.ws s.ks.length f = (0, 6) ∧ r = s.ks.length) ∨ (nextV s.ws s.ks.length f = ((r : Int), 0)) := by
  have hge : f ≤ r ∨ r = s.ks.length := by
    rcases Nat.lt_or_ge r s.ks.length with g | g
    · left
      rcases Nat.lt_or_ge r f with g2 | g2
      · have := c.lo r g2 g (ho g); omega
      · exact g2
    · right; omega
  have hge : f ≤ r := by
    have := c.top
    rcases hge with g | g
    · exact g
    · omega
  rcases next_cases hok c.top with ⟨e, h⟩ | ⟨a, e, h1, h2, h3, h4⟩
  · left
    refine ⟨e, ?_⟩
    rcases Nat.lt_or_ge r s.ks.length with g | g
    · have := h r hge g; rw [ho g] at this; cases this
    · omega
  · right
    have h5 := c.hi a h1 h2 h3
    have : r = a := by
      rcases Nat.lt_or_ge r a with g | g
      · have := h4 r hge g; rw [ho (by omega)] at this; cases this
      · omega
    rw [e, this]
end Go.Proofs.YthkhideonceibaaDoor.Seek

namespace Go.Proofs.YthkhideonceibaaDoor.Seek
open Go.RowKit Go.Shelf Go.Sort Go.Proofs.YthkhideonceibaaDoor Go.Proofs.YthkhideonceibaaDoor.Occ Go.Proofs.YthkhideonceibaaDoor.Slo
attribute [local go_sem] sval Oper.semAt_some

theorem St.tab {W : World} (h : Tab W) : St Tab W := ⟨h, fun _ _ h hb => h.mono hb⟩
theorem allV_ok {s : Sl} (h : okS s = true) : prsV s 0 s.ks.length = (allP s, 0) := by
  unfold prsV
  have e : askS s (inB s.ks.length (0 : Int) (s.ks.length : Int)) = 0 := by
    rw [inB_iff.2 ⟨by omega, by omega, by omega⟩]; exact askS_in h
  rw [if_pos e]
  simp [allP]
theorem allV_no {s : Sl} (h : okS s = false) : prsV s 0 s.ks.length = ([], 8) := by
  have e : askS s (inB s.ks.length (0 : Int) (s.ks.length : Int)) = 8 := by unfold askS; rw [h]; rfl
  unfold prsV
  rw [e]
  rfl
theorem chkK_no {s : Sl} (h : okS s = false) : chkK s = 8 := by unfold chkK; rw [h]; rfl
theorem chkK_yes {s : Sl} (h : okS s = true) : chkK s = if riseB (allP s) = true then 0 else 130 := by unfold chkK; rw [if_pos h]
theorem all_small {s : Sl} (h : okS s = true) : (allP s).length ≤ 65536 := by
  obtain ⟨g, q, o⟩ := okS_iff.1 h
  have := o.n1
  have e := prs_length s 0 s.ks.length
  have := occs_length s.ws 0 s.ks.length
  show (prs s 0 s.ks.length).length ≤ _
  omega

set_option maxRecDepth 100000 in
set_option maxHeartbeats 4000000 in
theorem kCheck_any (s : Sl) (h : Hd) (w : World) (W : s.Wf) (R : SRd w s h) :
    Calls Tryd.prog 45 #[sval s h] w fun e w' => e = .returned (.int .i64 (chkK s)) ∧ Below w.heap.size w w' := by
  have HP := Lib.hid (fun w1 (R : SRd w1 s h) => sPairs_any s h 0 s.ks.length w1 W R)
  have HR := Lib.hid R
  clear R W
  have E0 := Lib.hid ((((St.below' (allocS_below w s h))).and (St.rd (HR.out.next (allocS_below w s h)))).and (St.bs (allocS_bs w s h)))
  cases hok : okS s
  case false =>
    rw [allV_no hok] at HP
    rw [chkK_no hok]
    clear hok
    go_enter Tryd.func45, Tryd.ntmps45
    go_wp2_with fail
    rw [allocS_fold]
    generalize allocS w s h = w0 at *
    refine (HP.out _ E0.out.now.2.1).mono ?_
    rintro e w1 ⟨v, rfl, ho, hb⟩
    obtain ⟨al, cl, rfl, -, hr2, hcl, -⟩ := owns2_arg ho
    clear ho
    have E1 := Lib.hid ((E0.out.next hb).and (St.rd2 hr2))
    clear hb
    go_wp2
    go_ret
    exact ⟨rfl, E1.out.now.2.2.2⟩
  case true =>
    rw [allV_ok hok] at HP
    have HV := Lib.hid (chkK_yes hok)
    have HL := Lib.hid (all_small hok)
    clear hok
    generalize allP s = L at *
    generalize chkK s = V at *
    go_enter Tryd.func45, Tryd.ntmps45
    go_wp2_with fail
    rw [allocS_fold]
    generalize allocS w s h = w0 at *
    refine (HP.out _ E0.out.now.2.1).mono ?_
    rintro e w1 ⟨v, rfl, ho, hb⟩
    obtain ⟨al, cl, rfl, -, hr2, hcl, -⟩ := owns2_arg ho
    clear ho
    have E1 := Lib.hid ((E0.out.next hb).and (St.rd2 hr2))
    clear hb
    clear HP
    go_wp2
    go_loopw [5, 6, 20] (fun _ _ i wr => ∃ k : Nat, k ≤ L.length ∧ i = .int .i64 k ∧ (∀ j, j + 1 < k → (L.getD j (0, 0)).1 < (L.getD (j + 1) (0, 0)).1) ∧ Below w1.heap.size w1 wr) (fun _ _ i _ => L.length - (intOf i).toNat)
    case atStart => exact ⟨0, Nat.zero_le _, rfl, fun j hj => by omega, Below.refl _ _⟩
    case round =>
      obtain ⟨k, hk, rfl, hall, hb⟩ := hrel
      have HA := Lib.hid hall
      have HB := Lib.hid hb
      have E2 := Lib.hid (E1.out.next hb)
      clear hall hb
      have hl := HL.out
      have EL := Lib.hid (E2.out.and (St.below' HB.out))
      have E3 := EL
      clear EL
      by_cases hlt : k < L.length
      · obtain ⟨bl, ol, rfl, ca, cb⟩ := Rd2.at E3.out.now.2.1 (Below.refl _ _) (Nat.le_refl _) hlt
        have HK : Hid (∀ j, j + 1 = k → (L.getD j (0, 0)).1 < (L.getD k (0, 0)).1 → ∀ j, j + 1 < k + 1 → (L.getD j (0, 0)).1 < (L.getD (j + 1) (0, 0)).1) := Lib.hid (fun j hj h i hi => by
          by_cases hik : i = j
          · rw [hik, hj]; exact h
          · exact HA.out i (by omega))
        have HN : Hid (∀ j, j + 1 = k → ¬ (L.getD j (0, 0)).1 < (L.getD k (0, 0)).1 → riseB L = false) := Lib.hid (fun j hj h => riseB_no (i := j) (by omega) (by rw [hj]; exact h))
        have HD : Hid (∀ j, j < L.length → ∀ W, Rd2 W (some (⟨bl, ol, Option.none⟩ : Addr)) L → ∃ b off, some (⟨bl, ol, Option.none⟩ : Addr) = some ⟨b, off, Option.none⟩ ∧ W.cell? ⟨b, off + j * 2, Option.none⟩ = some (.int .i64 (L.getD j (0, 0)).1) ∧ W.cell? ⟨b, off + j * 2 + 1, Option.none⟩ = some (.int .i64 (L.getD j (0, 0)).2)) := Lib.hid (fun j hj W R => Rd2.at R (Below.refl _ _) (Nat.le_refl _) hj)
        generalize hxk : L.getD k (0, 0) = xk at *
        obtain ⟨x1, x2⟩ := xk
        dsimp only at ca cb HK HN
        have HXK := Lib.hid hxk
        clear hxk
        go_wp2_with fail
        rw [allocP_fold]
        have E4 := Lib.hid ((E3.out.next (allocP_below wr x1 x2)).and (St.bp (allocP_bp wr x1 x2)))
        generalize allocP wr x1 x2 = w4 at *
        clear ca cb
        cases k with
        | zero =>
          have d0 : decide ((0 : Int) < 0) = false := by decide
          refine region_qb' w4 w4.heap.size (Below.refl _ _) mixed' (by kernel_rfl) fun w5 hB hz => ?_
          have E5 := Lib.hid (E4.out.next hB)
          clear hB hz
          have EC := Lib.hid (fun d os => E5.out.next (below_regrown w5 d os))
          repeat (go_big_quiet_step (fail))
          refine wpQuiet_nil ?_
          rintro _ ⟨⟨dq, osq⟩, rfl⟩
          have E6 := Lib.hid (EC.out dq osq)
          generalize grow (redrawn w5 dq) osq = w6 at *
          clear EC 
          go_wp2
          go_roundw
          case rel => exact ⟨1, by omega, by go_num, fun j hj => by omega, E6.out.now.2.1⟩
          case measure => simp [intOf]; omega
        | succ k =>
          have hk0 : k < L.length := by omega
          have HD0 := Lib.hid (fun W R => HD.out k hk0 W R)
          have HK0 := Lib.hid (HK.out k rfl)
          have HN0 := Lib.hid (HN.out k rfl)
          clear HD HK HN
          generalize L.getD k (0, 0) = yk at *
          obtain ⟨y1, y2⟩ := yk
          dsimp only at HD0 HK0 HN0
          have d0 : decide ((0 : Int) < ((k + 1 : Nat) : Int)) = true := by simp
          have d1 : IntKind.i64.wrap (((k + 1 : Nat) : Int) - 1) = (k : Int) := by rw [IntKind.wrap_i64]; omega
          by_cases hyx : y1 < x1
          · have d2 : decide (x1 ≤ y1) = false := by simp; omega
            have HK1 := Lib.hid (HK0.out hyx)
            clear HK0 HN0 hyx
            refine region_qb' w4 w4.heap.size (Below.refl _ _) mixed' (by kernel_rfl) fun w5 hB hz => ?_
            have E5 := Lib.hid (E4.out.next hB)
            clear hB hz
            have EC := Lib.hid (fun d os => E5.out.next (below_regrown w5 d os))
            obtain ⟨⟨⟨p_0, p_1, -⟩, p_l⟩, -, -, -, -, -⟩ := E5.out.now
            obtain ⟨bv, ov, e4, ce, cf⟩ := HD0.out _ E5.out.now.2.2.1
            cases e4
            have qp_0 := cell_regrown p_0
            have qp_1 := cell_regrown p_1
            have qce := cell_regrown ce
            have qcf := cell_regrown cf
            clear p_0 p_1 p_l
            clear ce cf
            repeat (go_big_quiet_step (fail))
            refine wpQuiet_nil ?_
            rintro _ ⟨⟨dq, osq⟩, rfl⟩
            have E6 := Lib.hid (EC.out dq osq)
            generalize grow (redrawn w5 dq) osq = w6 at *
            clear EC qp_0 qp_1 qce qcf
            go_wp2
            go_roundw
            case rel => exact ⟨k + 2, by omega, by go_num, HK1.out, E6.out.now.2.1⟩
            case measure => simp [intOf]; omega
          · have d2 : decide (x1 ≤ y1) = true := by simp; omega
            have HV1 : Hid (V = 130) := Lib.hid (by rw [HV.out, HN0.out (by omega)]; rfl)
            clear HK0 HN0 hyx
            refine region_qb' w4 w4.heap.size (Below.refl _ _) mixed' (by kernel_rfl) fun w5 hB hz => ?_
            have E5 := Lib.hid (E4.out.next hB)
            clear hB hz
            have EC := Lib.hid (fun d os => E5.out.next (below_regrown w5 d os))
            obtain ⟨⟨⟨p_0, p_1, -⟩, p_l⟩, -, -, -, -, -⟩ := E5.out.now
            obtain ⟨bv, ov, e4, ce, cf⟩ := HD0.out _ E5.out.now.2.2.1
            cases e4
            have qp_0 := cell_regrown p_0
            have qp_1 := cell_regrown p_1
            have qce := cell_regrown ce
            have qcf := cell_regrown cf
            clear p_0 p_1 p_l
            clear ce cf
            repeat (go_big_quiet_step (fail))
            refine wpQuiet_nil ?_
            rintro _ ⟨⟨dq, osq⟩, rfl⟩
            have E6 := Lib.hid (EC.out dq osq)
            generalize grow (redrawn w5 dq) osq = w6 at *
            clear EC qp_0 qp_1 qce qcf
            go_wp2
            go_ret
            exact ⟨by rw [HV1.out]; rfl, E6.out.now.2.2.2.2.2⟩
      · obtain rfl : k = L.length := by omega
        have HV1 : Hid (V = 0) := Lib.hid (by rw [HV.out, if_pos]; exact riseB_iff.2 fun i hi => HA.out i hi)
        go_wp2
        go_ret
        exact ⟨by rw [HV1.out]; rfl, E3.out.now.2.2.2.2⟩
end Go.Proofs.YthkhideonceibaaDoor.Seek

namespace Go.Proofs.YthkhideonceibaaDoor.Seek
open Go.RowKit Go.Shelf Go.Sort Go.Proofs.YthkhideonceibaaDoor Go.Proofs.YthkhideonceibaaDoor.Occ Go.Proofs.YthkhideonceibaaDoor.Slo
attribute [local go_sem] sval Oper.semAt_some

theorem St.cell {W : World} {b : Nat} {v : Value} (h : W.cell? ⟨b, 0, Option.none⟩ = some v ∧ b < W.heap.size) : St (fun W => W.cell? ⟨b, 0, Option.none⟩ = some v ∧ b < W.heap.size) W :=
  ⟨h, fun _ _ h hb => ⟨(hb.cell (p := ⟨b, 0, Option.none⟩) h.2).trans h.1, Nat.lt_of_lt_of_le h.2 hb.size⟩⟩
set_option maxRecDepth 100000 in
set_option maxHeartbeats 4000000 in
theorem asks_any (x key : Int) (b : Nat) (w : World) (hc : w.cell? ⟨b, 0, Option.none⟩ = some (.int .i64 key)) :
    Calls Tryd.prog 64 #[.int .i64 x, .pointer (some ⟨b, 0, Option.none⟩)] w fun e w' => e = .returned (.bool (decide (key ≤ x))) ∧ w = w' := by
  go_enter Tryd.func64, Tryd.ntmps64
  go_wp2
  go_ret
  exact ⟨rfl, rfl⟩
set_option maxRecDepth 100000 in
set_option maxHeartbeats 8000000 in
theorem split_any (s : Sl) (h : Hd) (key : Int) (b r : Nat) (w : World) (hT : Tab w) (W : s.Wf) (R : SRd w s h) (hok : okS s = true) (hr : r ≤ s.ks.length) (ho : r < s.ks.length → occB s.ws r = true)
    (hq : ∀ i, i < s.ks.length → occB s.ws i = true → (s.ks.getD i 0 < key ↔ i < r)) (hc : w.cell? ⟨b, 0, Option.none⟩ = some (.int .i64 key) ∧ b < w.heap.size) :
    Calls Tryd.prog 63 #[sval s h, .func (Fn.func 64) #[] #[.pointer (some ⟨b, 0, Option.none⟩)]] w fun e w' => e = .returned (.int .i64 r) ∧ Below w.heap.size w w' := by
  have HN := Lib.hid (fun (p : Nat) w1 (hT : Tab w1) (R : SRd w1 s h) => Next_any h.aw h.cw s.ws s.ks.length p w1 hT W.u R.fw W.lw)
  have HC := Lib.hid (fun x w1 hc => asks_any x key b w1 hc)
  have HNC := Lib.hid (fun (p : Nat) (hp : p ≤ s.ks.length) => next_cases hok hp)
  have HLAST := Lib.hid (fun (f : Nat) (c : Cut s r f f) => c.last hr ho hok)
  have HQ := Lib.hid hq
  have hn : s.ks.length ≤ 65536 := by obtain ⟨g, q, o⟩ := okS_iff.1 hok; exact o.n1
  have E0 := Lib.hid ((((((St.below' (allocS_below w s h))).and (St.rd (R.next (allocS_below w s h)))).and ((St.tab hT).next (allocS_below w s h))).and ((St.cell hc).next (allocS_below w s h))).and (St.bs (allocS_bs w s h)))
  clear R hT hc hq hr ho hok W
  unfold sval at *
  go_enter Tryd.func63, Tryd.ntmps63
  go_wp2_with fail
  rw [allocS_fold]
  generalize allocS w s h = w0 at *
  obtain ⟨⟨⟨bs_0, bs_1, bs_2, bs_3, bs_4, bs_5, -⟩, bs_l⟩, -, -, -, -⟩ := E0.out.now
  refine wp_scope_straight ?_
  go_wp2_with fail
  refine wp_label ?_
  go_wp2_with fail
  go_loopw [6, 7, 8, 9, 10] (fun f t _ _ _ wr => ∃ F T : Nat, f = .int .i64 F ∧ t = .int .i64 T ∧ Cut s r F T ∧ Below w0.heap.size w0 wr) (fun f t _ _ _ _ => (intOf t).toNat - (intOf f).toNat)
  case atStart => exact ⟨0, s.ks.length, rfl, rfl, Cut.start s r, Below.refl _ _⟩
  case round =>
    clear bs_0 bs_1 bs_2 bs_3 bs_4 bs_5 bs_l
    obtain ⟨F, T, rfl, rfl, hcut, hb⟩ := hrel
    have HCUT := Lib.hid hcut
    have c_le := hcut.le
    have c_top := hcut.top
    have HB := Lib.hid hb
    have E1 := Lib.hid (E0.out.next hb)
    clear hcut hb
    have EL := Lib.hid (E1.out.and (St.below' HB.out))
    have E2 := EL
    clear EL HB
    by_cases hlt : F < T
    · have e0 : IntKind.i64.wrap ((F : Int) + (T : Int)) = ((F + T : Nat) : Int) := by rw [IntKind.wrap_i64]; omega
      have e1 : Int.tdiv ((F + T : Nat) : Int) 2 = (((F + T) / 2 : Nat) : Int) := by rw [Int.tdiv_eq_ediv_of_nonneg (by omega)]; simp
      have e2 : ((F : Int) + (T : Int)) / 2 = (((F + T) / 2 : Nat) : Int) := by omega
      have e3 : IntKind.i64.wrap (((F + T) / 2 : Nat) : Int) = (((F + T) / 2 : Nat) : Int) := by rw [IntKind.wrap_i64]; omega
      have HM : Hid (((F : Int) + (T : Int)) / 2 = (((F + T) / 2 : Nat) : Int)) := Lib.hid e2
      have m1 : F ≤ (F + T) / 2 := by omega
      have m2 : (F + T) / 2 < T := by omega
      generalize (F + T) / 2 = M at *
      have HQ2 := Lib.hid (HNC.out M (by omega))
      obtain ⟨-, ⟨⟨bs_0, bs_1, bs_2, bs_3, bs_4, bs_5, -⟩, bs_l⟩, -, -, -, -⟩ := E2.out.now
      go_wp2_with fail
      clear bs_0 bs_1 bs_2 bs_3 bs_4 bs_5 bs_l
      refine (HN.out M _ E2.out.now.2.2.2.1 E2.out.now.2.2.2.2.1).mono ?_
      rintro e w3 ⟨rfl, hb⟩
      have E3 := Lib.hid (E2.out.next hb)
      clear hb
      clear e0 e1 e2 e3
      rcases HQ2.out with ⟨en, hno⟩ | ⟨a, ea, a1, a2, a3, a4⟩
      · rw [en]
        clear HQ2 en
        have HD := Lib.hid (HCUT.out.none m1 (Nat.le_of_lt m2) hno)
        clear hno
        go_wp2
        go_roundw
        case rel => exact ⟨F, M, by go_num, by (first | go_num | rw [HM.out]), HD.out, E3.out.now.1⟩
        case measure => simp [intOf]; have := HM.out; omega
      · rw [ea]
        clear HQ2 ea
        have HD := Lib.hid (fun h => HCUT.out.down m1 (Nat.le_of_lt m2) a4 h)
        clear a4
        by_cases hta : T ≤ a
        · have hta' : (T : Int) ≤ (a : Int) := by omega
          have HD1 := Lib.hid (HD.out (.inl hta))
          clear HD
          go_wp2
          go_roundw
          case rel => exact ⟨F, M, by go_num, by (first | go_num | rw [HM.out]), HD1.out, E3.out.now.1⟩
          case measure => simp [intOf]; have := HM.out; omega
        · have hta' : ¬ ((T : Int) ≤ (a : Int)) := by omega
          have HX := Lib.hid (HQ.out a a2 a3)
          obtain ⟨bk, ok, hak, -, ck⟩ := rd_at (E3.out.now.2.2.2.2.1).fk (i := a) a2
          obtain ⟨-, ⟨⟨bs_0, bs_1, bs_2, bs_3, bs_4, bs_5, -⟩, bs_l⟩, -, -, -, -⟩ := E3.out.now
          rw [hak] at bs_2
          clear hak
          generalize s.ks.getD a 0 = x at *
          go_wp2_with fail
          clear ck
          clear bs_0 bs_1 bs_2 bs_3 bs_4 bs_5 bs_l
          refine (HC.out x _ (E3.out.now.2.2.1).1).mono ?_
          rintro e wx ⟨rfl, rfl⟩
          by_cases hkx : key ≤ x
          · have HD1 := Lib.hid (HD.out (.inr (by have := HX.out; omega)))
            clear HD HX
            go_wp2
            go_roundw
            case rel => exact ⟨F, M, by go_num, by (first | go_num | rw [HM.out]), HD1.out, E3.out.now.1⟩
            case measure => simp [intOf]; have := HM.out; omega
          · have HU := Lib.hid (HCUT.out.up (a := a) (by omega) (by have := HX.out; omega))
            clear HD HX
            have e4 : IntKind.i64.wrap ((a : Int) + 1) = ((a + 1 : Nat) : Int) := by rw [IntKind.wrap_i64]; omega
            go_wp2
            go_roundw
            case rel => exact ⟨a + 1, T, by go_num, by go_num, HU.out, E3.out.now.1⟩
            case measure => simp [intOf]; omega
    · obtain rfl : F = T := by omega
      have HL2 := Lib.hid (HLAST.out F HCUT.out)
      obtain ⟨-, ⟨⟨bs_0, bs_1, bs_2, bs_3, bs_4, bs_5, -⟩, bs_l⟩, -, -, -, -⟩ := E2.out.now
      go_wp2_with fail
      clear bs_0 bs_1 bs_2 bs_3 bs_4 bs_5 bs_l
      refine (HN.out F _ E2.out.now.2.2.2.1 E2.out.now.2.2.2.2.1).mono ?_
      rintro e w3 ⟨rfl, hb⟩
      have E3 := Lib.hid (E2.out.next hb)
      clear hb
      rcases HL2.out with ⟨en, er⟩ | ea
      · rw [en]
        clear HL2 en
        have HE := Lib.hid er
        clear er
        go_wp2
        simp only [Exit.noGoto]
        go_ret
        exact ⟨by rw [HE.out]; rfl, E3.out.now.2.2.2.2.2⟩
      · rw [ea]
        clear HL2 ea
        go_wp2
        simp only [Exit.noGoto]
        go_ret
        exact ⟨rfl, E3.out.now.2.2.2.2.2⟩

set_option maxRecDepth 100000 in
set_option maxHeartbeats 4000000 in
theorem from_any (s : Sl) (h : Hd) (key : Int) (w : World) (hT : Tab w) (W : s.Wf) (R : SRd w s h) (hk : chkK s = 0) :
    Calls Tryd.prog 50 #[sval s h, .int .i64 key] w fun e w' => e = .returned (.int .i64 (fromN s key)) ∧ Below w.heap.size w w' := by
  obtain ⟨hok, hri⟩ := chkK_ok hk
  have HSP := Lib.hid (fun b w1 (hT : Tab w1) (R : SRd w1 s h) hc => split_any s h key b (fromN s key) w1 hT W R hok (from_le s key) (fun h => (from_occ h).2.2) (fun i h1 h2 => from_iff hri key h1 h2) hc)
  have HB1 := Lib.hid (allocS_below w s h)
  have HB2 : Hid (Below w.heap.size w ((allocS w s h).alloc (.cells #[.int .i64 key] 2))) := Lib.hid ((allocS_below w s h).alloc (by rw [allocS_size]; omega) _)
  have HT := Lib.hid (hT.mono HB2.out)
  have HR := Lib.hid (R.next HB2.out)
  have HCc : Hid (((allocS w s h).alloc (.cells #[.int .i64 key] 2)).cell? ⟨w.heap.size + 1, 0, Option.none⟩ = some (.int .i64 key) ∧ w.heap.size + 1 < ((allocS w s h).alloc (.cells #[.int .i64 key] 2)).heap.size) := Lib.hid (by
    have := (Boxed.new (allocS w s h) 2 (.int .i64 key)).cell
    rw [allocS_size] at this
    exact ⟨this, by simp [allocS_size]⟩)
  clear hk hok hri W R hT
  generalize fromN s key = r at *
  go_enter Tryd.func50, Tryd.ntmps50
  go_wp2_with fail
  rw [allocS_fold]
  refine (HSP.out _ _ HT.out HR.out HCc.out).mono ?_
  rintro e w1 ⟨rfl, hb⟩
  go_wp2
  go_ret
  exact ⟨rfl, HB2.out.trans (hb.mono HB2.out.size)⟩
end Go.Proofs.YthkhideonceibaaDoor.Seek
