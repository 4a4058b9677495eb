/- What is laid is there, nothing else is turned: the plain law. A part that is filled has just these pairs: the plain law. What came in: two numbers in a box, pairs. The law SlotsWhole: its walk. -/
import Derived.Test.YtfdkaahkhgljdaaMan
namespace Go.Proofs.Ytfdkaahkhgljdaa.Slo
open Go.RowKit Go.Shelf Go.Sort Go.Proofs.Ytfdkaahkhgljdaa Go.Proofs.Ytfdkaahkhgljdaa.Occ Go.Proofs.Ytfdkaahkhgljdaa.Frac

theorem atV_of {s : Sl} (hk : okS s = true) {a : Nat} (h : a < s.ks.length) : atV s a = if occB s.ws a = true then (pairAt s a, 0) else ((0, 0), 6) := by
  have h1 : askS s (atB s.ks.length a) = 0 := by rw [atB_iff.2 (by omega)]; exact askS_in hk
  unfold atV
  rw [if_pos h1]
  simp
theorem atV_out {s : Sl} (hk : okS s = true) {a : Int} (h : ¬ (0 ≤ a ∧ a < s.ks.length)) : atV s a = ((0, 0), 2) := by
  have h0 : atB s.ks.length a = false := by rw [Bool.eq_false_iff]; intro g; exact h (atB_iff.1 g)
  have h1 : askS s (atB s.ks.length a) = 2 := by rw [h0]; exact askS_out hk
  unfold atV
  rw [h1]; rfl
theorem atV_congr {s s' : Sl} (hk : okS s = true) (hk' : okS s' = true) (hl : s'.ks.length = s.ks.length) (c : Int)
    (h : ∀ i : Nat, c = (i : Int) → i < s.ks.length → occB s'.ws i = occB s.ws i ∧ pairAt s' i = pairAt s i) : atV s' c = atV s c := by
  by_cases hc : 0 ≤ c ∧ c < s.ks.length
  · obtain ⟨i, rfl⟩ := Int.eq_ofNat_of_zero_le hc.1
    have hi : i < s.ks.length := by omega
    obtain ⟨h1, h2⟩ := h i rfl hi
    rw [atV_of hk hi, atV_of hk' (by omega), h1, h2]
  · rw [atV_out hk hc, atV_out hk' (by rw [hl]; exact hc)]
theorem pair_take {s : Sl} {g q a : Nat} (o : Ok s g q) (ha : a < s.ks.length) (i : Nat) : pairAt (takeV s a) i = if i = a then (0, 0) else pairAt s i := by
  show ((s.ks.set a 0).getD i 0, (s.vs.set a 0).getD i 0) = _
  rw [getD_set _ _ _ _ ha, getD_set _ _ _ _ (by rw [o.v]; exact ha)]
  split <;> rfl
theorem pair_set {s : Sl} {g q a : Nat} (o : Ok s g q) (ha : a < s.ks.length) (x y : Int) (i : Nat) : pairAt (setV s a x y) i = if i = a then (x, y) else pairAt s i := by
  show ((s.ks.set a x).getD i 0, (s.vs.set a y).getD i 0) = _
  rw [getD_set _ _ _ _ ha, getD_set _ _ _ _ (by rw [o.v]; exact ha)]
  split <;> rfl
theorem pair_lay {s : Sl} {g q a : Nat} (o : Ok s g q) (hu : U64 s.ws) (ha : a < s.ks.length) (x y : Int) (i : Nat) : pairAt (layV s a x y) i = if i = a then (x, y) else pairAt s i := by
  unfold layV
  rw [pair_set (o.take hu ha) (by rw [take_len]; exact ha), pair_take o ha]
  split <;> simp_all
theorem lay_occ {s : Sl} {g q a : Nat} (o : Ok s g q) (hu : U64 s.ws) (ha : a < s.ks.length) (x y : Int) (i : Nat) : occB (layV s a x y).ws i = if i = a then true else occB s.ws i := by
  unfold layV
  rw [set_occ (o.take hu ha) (take_u hu a) (by rw [take_len]; exact ha), take_occ o hu ha]
  split <;> simp_all
theorem lay_len {s : Sl} (a : Nat) (x y : Int) : (layV s a x y).ks.length = s.ks.length := by unfold layV; rw [set_len, take_len]
theorem lay_u {s : Sl} (hu : U64 s.ws) (a : Nat) (x y : Int) : U64 (layV s a x y).ws := set_u (take_u hu a) a x y
theorem wrap_u64 (n : Int) : 0 ≤ IntKind.u64.wrap n ∧ IntKind.u64.wrap n < 18446744073709551616 := u64_wf (wf_wrap .u64 n)
theorem laySV_no {s : Sl} {a x y : Int} (h : (laySV s a x y).2 ≠ 0) : (laySV s a x y).1 = noneS := by
  unfold laySV at *
  split
  · rename_i h1; rw [if_pos h1] at h; exact absurd rfl h
  · rfl
theorem moveSV_no {s : Sl} {a b : Int} (h : (moveSV s a b).2 ≠ 0) : (moveSV s a b).1 = noneS := by
  unfold moveSV at *
  split
  · rfl
  · split
    · rfl
    · split
      · rfl
      · rename_i h1 h2 h3; rw [if_neg h1, if_neg h2, if_neg h3] at h; exact absurd rfl h

/-- What the law asks of what was laid. -/
structure There (s : Sl) (a b c x y : Int) (X Y : Sl) : Prop where
  wx : X.Wf
  wy : Y.Wf
  lx : X.laid = IntKind.u64.wrap (s.laid + 1)
  ly : Y.laid = X.laid
  clr : clearSV X a = (Y, 0)
  atx : atV X a = ((x, y), 0)
  aty : (atV Y a).2 = 6
  cx : chkS X = 0
  cy : chkS Y = 0
  cc : c ≠ a → atV X c = atV s c ∧ atV Y c = atV s c
  mv : ∀ Z, moveSV X a b = (Z, 0) → Z.Wf ∧ atV Z b = ((x, y), 0) ∧ Z.laid = IntKind.u64.wrap (X.laid + 1) ∧ (a = b ∨ (atV Z a).2 = 6) ∧ (c = a ∨ c = b ∨ atV Z c = atV s c) ∧ chkS Z = 0
theorem there_of {s : Sl} {a x y : Int} (hu : U64 s.ws) (hl : 0 ≤ s.laid ∧ s.laid < 18446744073709551616) (h : (laySV s a x y).2 = 0) (b c : Int) :
    ∃ X Y, laySV s a x y = (X, 0) ∧ There s a b c x y X Y := by
  by_cases h1 : askS s (atB s.ks.length a) = 0
  · obtain ⟨hk, hat⟩ := askS_ok h1
    obtain ⟨h0, ha⟩ := atB_iff.1 hat
    obtain ⟨a, rfl⟩ := Int.eq_ofNat_of_zero_le h0
    have ha : a < s.ks.length := by omega
    obtain ⟨g, q, o⟩ := okS_iff.1 hk
    have oX := o.lay hu ha x y
    have uX := lay_u hu a x y
    have haX : a < (layV s a x y).ks.length := by rw [lay_len]; exact ha
    have oY := oX.take uX haX
    have uY := take_u uX a
    have lX : 0 ≤ (layV s a x y).laid ∧ (layV s a x y).laid < 18446744073709551616 := wrap_u64 _
    have eX : atV (layV s a x y) a = ((x, y), 0) := by
      rw [atV_of oX.ok haX, lay_occ o hu ha, if_pos rfl, if_pos rfl, pair_lay o hu ha, if_pos rfl]
    have occY : ∀ i, occB (takeV (layV s a x y) a).ws i = if i = a then false else occB s.ws i := fun i => by
      rw [take_occ oX uX haX, lay_occ o hu ha]; split <;> rfl
    have prY : ∀ i, pairAt (takeV (layV s a x y) a) i = if i = a then (0, 0) else pairAt s i := fun i => by
      rw [pair_take oX haX, pair_lay o hu ha]; split <;> rfl
    have haY : a < (takeV (layV s a x y) a).ks.length := by rw [take_len]; exact haX
    refine ⟨layV s a x y, takeV (layV s a x y) a, by unfold laySV; rw [if_pos h1]; simp, oX.wf uX lX, oY.wf uY lX, rfl, rfl, ?_, eX, ?_, ?_, ?_, ?_, ?_⟩
    · unfold clearSV; rw [eX, if_pos rfl]; simp
    · rw [atV_of oY.ok haY, occY, if_pos rfl]; rfl
    · unfold chkS; rw [if_pos oX.ok]
    · unfold chkS; rw [if_pos oY.ok]
    · intro hc
      refine ⟨atV_congr hk oX.ok (lay_len _ _ _) c fun i hi _ => ?_, atV_congr hk oY.ok (by rw [take_len, lay_len]) c fun i hi _ => ?_⟩
      · have hia : i ≠ a := fun e => hc (by rw [hi, e])
        rw [lay_occ o hu ha, pair_lay o hu ha, if_neg hia, if_neg hia]; exact ⟨rfl, rfl⟩
      · have hia : i ≠ a := fun e => hc (by rw [hi, e])
        rw [occY, prY, if_neg hia, if_neg hia]; exact ⟨rfl, rfl⟩
    · intro Z hZ
      unfold moveSV at hZ
      rw [eX, if_neg (by simp)] at hZ
      by_cases hb : b < 0 ∨ ((layV s a x y).ks.length : Int) ≤ b
      · rw [if_pos hb] at hZ; simp at hZ
      · rw [if_neg hb] at hZ
        obtain ⟨b, rfl⟩ := Int.eq_ofNat_of_zero_le (show 0 ≤ b by omega)
        have hb : b < s.ks.length := by rw [lay_len] at hb; omega
        by_cases hf : (b : Int) ≠ (a : Int) ∧ occB (layV s a x y).ws ((b : Int)).toNat = true
        · rw [if_pos hf] at hZ; simp at hZ
        · rw [if_neg hf] at hZ
          simp only [Int.toNat_natCast] at hZ
          rw [pair_lay o hu ha, if_pos rfl] at hZ
          obtain rfl : layV (takeV (layV s a x y) a) b x y = Z := (Prod.mk.inj hZ).1
          have hbY : b < (takeV (layV s a x y) a).ks.length := by rw [take_len, lay_len]; exact hb
          have oZ := oY.lay uY hbY x y
          have uZ := lay_u uY b x y
          have occZ : ∀ i, occB (layV (takeV (layV s a x y) a) b x y).ws i = if i = b then true else if i = a then false else occB s.ws i := fun i => by
            rw [lay_occ oY uY hbY, occY]
          have prZ : ∀ i, pairAt (layV (takeV (layV s a x y) a) b x y) i = if i = b then (x, y) else if i = a then (0, 0) else pairAt s i := fun i => by
            rw [pair_lay oY uY hbY, prY]
          have lenZ : (layV (takeV (layV s a x y) a) b x y).ks.length = s.ks.length := by rw [lay_len, take_len, lay_len]
          refine ⟨oZ.wf uZ (wrap_u64 _), ?_, rfl, ?_, ?_, ?_⟩
          · rw [atV_of oZ.ok (by rw [lenZ]; exact hb), occZ, prZ, if_pos rfl, if_pos rfl, if_pos rfl]
          · by_cases hab : a = b
            · left; rw [hab]
            · right
              rw [atV_of oZ.ok (by rw [lenZ]; exact ha), occZ, if_neg hab, if_pos rfl]; rfl
          · by_cases hca : c = (a : Int)
            · exact .inl hca
            · by_cases hcb : c = (b : Int)
              · exact .inr (.inl hcb)
              · refine .inr (.inr (atV_congr hk oZ.ok lenZ c fun i hi _ => ?_))
                have h1 : i ≠ a := fun e => hca (by rw [hi, e])
                have h2 : i ≠ b := fun e => hcb (by rw [hi, e])
                rw [occZ, prZ, if_neg h2, if_neg h1, if_neg h2, if_neg h1]; exact ⟨rfl, rfl⟩
          · unfold chkS; rw [if_pos oZ.ok]
  · exfalso
    unfold laySV at h
    rw [if_neg h1] at h
    exact h1 h
end Go.Proofs.Ytfdkaahkhgljdaa.Slo

namespace Go.Proofs.Ytfdkaahkhgljdaa.Slo
open Go.RowKit Go.Shelf Go.Sort Go.Proofs.Ytfdkaahkhgljdaa Go.Proofs.Ytfdkaahkhgljdaa.Occ Go.Proofs.Ytfdkaahkhgljdaa.Frac

theorem sorted_ext : ∀ (a b : List Nat), a.Pairwise (· < ·) → b.Pairwise (· < ·) → (∀ i, i ∈ a ↔ i ∈ b) → a = b
  | [], [], _, _, _ => rfl
  | [], y :: b, _, _, h => by have := (h y).2 (List.mem_cons_self); simp at this
  | x :: a, [], _, _, h => by have := (h x).1 (List.mem_cons_self); simp at this
  | x :: a, y :: b, ha, hb, h => by
    obtain ⟨h1, ha'⟩ := List.pairwise_cons.1 ha
    obtain ⟨h2, hb'⟩ := List.pairwise_cons.1 hb
    have hxy : x = y := by
      rcases List.mem_cons.1 ((h x).1 List.mem_cons_self) with e | m
      · exact e
      · rcases List.mem_cons.1 ((h y).2 List.mem_cons_self) with e | m2
        · exact e.symm
        · have := h2 x m; have := h1 y m2; omega
    subst hxy
    rw [sorted_ext a b ha' hb' fun i => ?_]
    constructor
    · intro m
      rcases List.mem_cons.1 ((h i).1 (List.mem_cons_of_mem _ m)) with e | m2
      · have := h1 i m; omega
      · exact m2
    · intro m
      rcases List.mem_cons.1 ((h i).2 (List.mem_cons_of_mem _ m)) with e | m2
      · have := h2 i m; omega
      · exact m2
theorem occs_eq {ws : List Int} {f d : Nat} {L : List Nat} (hL : L.Pairwise (· < ·)) (hm : ∀ i, i ∈ L ↔ (f ≤ i ∧ i < f + d) ∧ occB ws i = true) : occs ws f d = L := by
  refine sorted_ext _ _ ?_ hL fun i => ?_
  · unfold occs
    exact List.Pairwise.filter _ List.pairwise_lt_range'
  · rw [hm i]
    unfold occs
    rw [List.mem_filter, List.mem_range'_1]

theorem clr_facts {s : Sl} {g q n f : Nat} (h : Is s g q n) : ∀ k, f + k ≤ n → (∀ i, occB (clrV s f k).ws i = if f ≤ i ∧ i < f + k then false else occB s.ws i) ∧ (∀ i, (i < f ∨ f + k ≤ i) → pairAt (clrV s f k) i = pairAt s i) ∧ (clrV s f k).laid = s.laid
  | 0, _ => ⟨fun i => by rw [if_neg (by omega)]; rfl, fun _ _ => rfl, rfl⟩
  | k + 1, hk => by
    obtain ⟨h1, h2, h3⟩ := clr_facts (f := f) h k (by omega)
    have H := h.clr k (f := f) (by omega)
    have hlt : f + k < (clrV s f k).ks.length := by rw [H.n]; omega
    refine ⟨fun i => ?_, fun i hi => ?_, h3⟩
    · show occB (takeV (clrV s f k) (f + k)).ws i = _
      rw [take_occ H.o H.u hlt, h1]
      by_cases e : i = f + k
      · rw [if_pos e, if_pos (by omega)]
      · rw [if_neg e]
        by_cases e2 : f ≤ i ∧ i < f + k
        · rw [if_pos e2, if_pos (by omega)]
        · rw [if_neg e2, if_neg (by omega)]
    · show pairAt (takeV (clrV s f k) (f + k)) i = _
      rw [pair_take H.o hlt, if_neg (by omega), h2 i (by omega)]

/-- Strictly rising. -/
def RisesV (xs : List Int) : Prop := ∀ j k, j < k → k < xs.length → xs.getD j 0 < xs.getD k 0
theorem rises_of {f t : Int} {xs : List Int} (h : partB f t xs = true) : RisesV xs := by
  intro j k hjk hk
  induction k with
  | zero => omega
  | succ k ih =>
    have h1 := (partB_iff.1 h (k + 1) hk).1
    simp only [prevV, Nat.add_sub_cancel, if_neg (Nat.succ_ne_zero k)] at h1
    rcases Nat.lt_or_ge j k with h2 | h2
    · have := ih h2 (by omega); omega
    · obtain rfl : j = k := by omega
      exact h1

theorem lay_facts {s : Sl} {g q n : Nat} (h : Is s g q n) {xs : List Int} {ps : List (Int × Int)} (hx : ∀ k, k < xs.length → 0 ≤ xs.getD k 0 ∧ xs.getD k 0 < n) (hr : RisesV xs) : ∀ k, k ≤ xs.length →
    (∀ j, j < k → occB (layL s xs ps k).ws (xs.getD j 0).toNat = true ∧ pairAt (layL s xs ps k) (xs.getD j 0).toNat = ps.getD j (0, 0)) ∧
    (∀ i : Nat, (∀ j, j < k → xs.getD j 0 ≠ i) → occB (layL s xs ps k).ws i = occB s.ws i ∧ pairAt (layL s xs ps k) i = pairAt s i) ∧ (layL s xs ps k).laid = IntKind.u64.wrap (s.laid + k)
  | 0, _ => ⟨fun j hj => by omega, fun _ _ => ⟨rfl, rfl⟩, by
      show s.laid = _
      rw [IntKind.wrap_u64]; have := h.l; omega⟩
  | k + 1, hk => by
    obtain ⟨h1, h2, h3⟩ := lay_facts h hx hr k (by omega) (ps := ps)
    have H := h.layL hx (ps := ps) k (by omega)
    have hxk := hx k (by omega)
    have hlt : (xs.getD k 0).toNat < (layL s xs ps k).ks.length := by rw [H.n]; omega
    have O := lay_occ H.o H.u hlt (ps.getD k (0, 0)).1 (ps.getD k (0, 0)).2
    have Q := pair_lay H.o H.u hlt (ps.getD k (0, 0)).1 (ps.getD k (0, 0)).2
    refine ⟨fun j hj => ?_, fun i hi => ?_, ?_⟩
    · show occB (layV (layL s xs ps k) _ _ _).ws _ = true ∧ pairAt (layV (layL s xs ps k) _ _ _) _ = _
      rw [O, Q]
      by_cases e : j = k
      · subst e; rw [if_pos rfl, if_pos rfl]; exact ⟨rfl, rfl⟩
      · have hlt2 := hr j k (by omega) (by omega)
        have hxj := hx j (by omega)
        have e2 : (xs.getD j 0).toNat ≠ (xs.getD k 0).toNat := by omega
        rw [if_neg e2, if_neg e2]; exact h1 j (by omega)
    · show occB (layV (layL s xs ps k) _ _ _).ws _ = _ ∧ pairAt (layV (layL s xs ps k) _ _ _) _ = _
      have e := hi k (by omega)
      have e2 : i ≠ (xs.getD k 0).toNat := by omega
      rw [O, Q, if_neg e2, if_neg e2]; exact h2 i fun j hj => hi j (by omega)
    · show IntKind.u64.wrap ((layL s xs ps k).laid + 1) = _
      rw [h3, IntKind.wrap_u64, IntKind.wrap_u64, IntKind.wrap_u64]; have := h.l; omega

/-- What the law asks of what was filled. -/
structure Whole (s : Sl) (f t : Int) (xs : List Int) (ps : List (Int × Int)) (X : Sl) : Prop where
  wx : X.Wf
  lk : X.ks.length = s.ks.length
  len : xs.length = ps.length
  pin : prsV X f t = (ps, 0)
  pa : prsV X 0 f = prsV s 0 f ∧ (prsV s 0 f).2 = 0
  pc : prsV X t X.ks.length = prsV s t s.ks.length ∧ (prsV s t s.ks.length).2 = 0
  at_ : ∀ k, k < xs.length → atV X (xs.getD k 0) = (ps.getD k (0, 0), 0)
  laid : X.laid = IntKind.u64.wrap (s.laid + ps.length)
  ck : chkS X = 0
theorem fillSV_no {s : Sl} {f t : Int} {xs : List Int} {ps : List (Int × Int)} (h : (fillSV s f t xs ps).2 ≠ 0) : (fillSV s f t xs ps).1 = noneS := by
  unfold fillSV at *
  split
  · rfl
  · split
    · rfl
    · rename_i h1 h2; rw [if_neg h1, if_neg h2] at h; exact absurd rfl h
theorem whole_of {s : Sl} {f t : Int} {xs : List Int} {ps : List (Int × Int)} (hu : U64 s.ws) (hl : 0 ≤ s.laid ∧ s.laid < 18446744073709551616) (h : (fillSV s f t xs ps).2 = 0) :
    ∃ X, fillSV s f t xs ps = (X, 0) ∧ Whole s f t xs ps X := by
  unfold fillSV at h ⊢
  by_cases h1 : askS s (inB s.ks.length f t) ≠ 0
  · rw [if_pos h1] at h; exact absurd h h1
  rw [if_neg h1] at h ⊢
  by_cases h2 : xs.length ≠ ps.length ∨ partB f t xs = false
  · rw [if_pos h2] at h; simp at h
  rw [if_neg h2]
  obtain ⟨hk, hin⟩ := askS_ok (Classical.not_not.1 h1)
  obtain ⟨h0, hft, htn⟩ := inB_iff.1 hin
  have hlen : xs.length = ps.length := Classical.not_not.1 fun e => h2 (.inl e)
  have hp : partB f t xs = true := by cases e : partB f t xs with
    | true => rfl
    | false => exact absurd (.inr e) h2
  obtain ⟨f, rfl⟩ := Int.eq_ofNat_of_zero_le h0
  obtain ⟨t, rfl⟩ := Int.eq_ofNat_of_zero_le (show 0 ≤ t by omega)
  obtain ⟨g, q, o⟩ := okS_iff.1 hk
  have I : Is s g q s.ks.length := ⟨o, hu, hl, rfl⟩
  have hft : f ≤ t := by omega
  have htn : t ≤ s.ks.length := by omega
  have IY := I.clr (f := f) (t - f) (by omega)
  obtain ⟨c1, c2, c3⟩ := clr_facts (f := f) I (t - f) (by omega)
  have hge := partB_ge hp
  have hlt : ∀ k, k < xs.length → xs.getD k 0 < (t : Int) := fun k hk => (partB_iff.1 hp k hk).2
  have hx : ∀ k, k < xs.length → 0 ≤ xs.getD k 0 ∧ xs.getD k 0 < (s.ks.length : Int) := fun k hk => by have := hge k hk; have := hlt k hk; omega
  have hr := rises_of hp
  have IX := IY.layL (ps := ps) hx xs.length (Nat.le_refl _)
  obtain ⟨d1, d2, d3⟩ := lay_facts IY (ps := ps) hx hr xs.length (Nat.le_refl _)
  simp only [Int.toNat_natCast]
  have eX : fillV s f t xs ps = layL (clrV s f (t - f)) xs ps xs.length := rfl
  rw [← eX] at IX d1 d2 d3
  generalize fillV s f t xs ps = X at *
  have lX := IX.n
  have out : ∀ i : Nat, (i < f ∨ t ≤ i) → occB X.ws i = occB s.ws i ∧ pairAt X i = pairAt s i := fun i hi => by
    obtain ⟨e1, e2⟩ := d2 i fun j hj => by have := hge j hj; have := hlt j hj; omega
    rw [e1, e2, c1, if_neg (by omega)]
    exact ⟨rfl, c2 i (by omega)⟩
  have hask : ∀ {Z : Sl} {b : Bool}, okS Z = true → b = true → askS Z b = 0 := fun hz hb => by rw [hb]; exact askS_in hz
  have oX := IX.o.ok
  have side : ∀ a d : Nat, (a + d ≤ f ∨ t ≤ a) → prs X a d = prs s a d := fun a d had => by
    unfold prs
    rw [occs_congr (ws := X.ws) (ws' := s.ws) fun i h3 h4 => (out i (by omega)).1]
    refine List.map_congr_left fun i hi => (out i ?_).2
    unfold occs at hi
    have := (List.mem_filter.1 hi).1
    rw [List.mem_range'_1] at this
    omega
  refine ⟨X, rfl, IX.o.wf IX.u IX.l, lX, hlen, ?_, ⟨?_, ?_⟩, ⟨?_, ?_⟩, ?_, ?_, ?_⟩
  · unfold prsV
    rw [if_pos (hask oX (by rw [lX]; exact inB_iff.2 (by omega)))]
    simp only [Int.toNat_natCast]
    rw [show ((t : Int) - (f : Int)).toNat = t - f by omega]
    have e : occs X.ws f (t - f) = (List.range xs.length).map fun j => (xs.getD j 0).toNat := by
      refine occs_eq ?_ fun i => ?_
      · rw [List.pairwise_map]
        refine List.Pairwise.imp_of_mem ?_ (List.pairwise_lt_range (n := xs.length))
        intro a b ha hb hab
        have := hr a b hab (List.mem_range.1 hb)
        have := hx a (List.mem_range.1 ha)
        omega
      · rw [List.mem_map]
        constructor
        · rintro ⟨j, hj, rfl⟩
          have hj := List.mem_range.1 hj
          have := hge j hj; have := hlt j hj
          exact ⟨by omega, (d1 j hj).1⟩
        · rintro ⟨hi, ho⟩
          refine Classical.byContradiction fun hno => ?_
          have := (d2 i fun j hj e => hno ⟨j, List.mem_range.2 hj, by omega⟩).1
          rw [c1, if_pos (by omega)] at this
          rw [this] at ho; cases ho
    unfold prs
    rw [e, List.map_map]
    congr 1
    refine List.ext_getElem? fun j => ?_
    by_cases hj : j < xs.length
    · have hj2 : j < ps.length := by omega
      simp [List.getElem?_map, List.getElem?_range, hj]
      have := (d1 j hj).2
      simp [List.getD_eq_getElem?_getD, hj, hj2] at this
      simp [List.getElem?_eq_getElem hj2, this]
    · rw [List.getElem?_eq_none (by simp; omega), List.getElem?_eq_none (by omega)]
  · unfold prsV
    rw [if_pos (hask oX (by rw [lX]; exact inB_iff.2 (by omega))), if_pos (hask hk (inB_iff.2 (by omega)))]
    rw [side _ _ (by omega)]
  · unfold prsV
    rw [if_pos (hask hk (inB_iff.2 (by omega)))]
  · unfold prsV
    rw [if_pos (hask oX (inB_iff.2 (by omega))), if_pos (hask hk (inB_iff.2 (by omega))), lX]
    rw [side _ _ (by omega)]
  · unfold prsV
    rw [if_pos (hask hk (inB_iff.2 (by omega)))]
  · intro k hk'
    obtain ⟨e1, e2⟩ := d1 k hk'
    have h3 := hx k hk'
    have e3 := atV_of oX (a := (xs.getD k 0).toNat) (by omega)
    rw [Int.toNat_of_nonneg h3.1, if_pos e1, e2] at e3
    exact e3
  · rw [d3, c3, hlen]
  · unfold chkS; rw [if_pos oX]
end Go.Proofs.Ytfdkaahkhgljdaa.Slo

namespace Go.Proofs.Ytfdkaahkhgljdaa.Slo
open Go.RowKit Go.Shelf Go.Sort Go.Proofs.Ytfdkaahkhgljdaa Go.Proofs.Ytfdkaahkhgljdaa.Occ Go.Proofs.Ytfdkaahkhgljdaa.Frac

/-- Two numbers in a box. -/
def alloc2 (W : World) (a b : Int) : World := W.alloc (.cells #[.int .i64 a, .int .i64 b] 28)
theorem alloc2_fold (W : World) (a b : Int) : W.alloc (.cells #[.int .i64 a, .int .i64 b] 28) = alloc2 W a b := rfl
theorem alloc2_size (W : World) (a b : Int) : (alloc2 W a b).heap.size = W.heap.size + 1 := by simp [alloc2]
theorem alloc2_below (W : World) (a b : Int) : Below W.heap.size W (alloc2 W a b) := (Below.refl _ W).alloc (Nat.le_refl _) _
theorem alloc2_bp (W : World) (a b : Int) : BP (alloc2 W a b) W.heap.size a b := ⟨Res.new W a b _, by rw [alloc2_size]; omega⟩
/-- The two boxes. -/
def in2 (w : World) (s : Sl) (h : Hd) (a b : Int) : World := alloc2 (allocS w s h) a b
theorem in2_size (w : World) (s : Sl) (h : Hd) (a b : Int) : (in2 w s h a b).heap.size = w.heap.size + 2 := by simp [in2, alloc2_size, allocS_size]
theorem in2_below (w : World) (s : Sl) (h : Hd) (a b : Int) : Below w.heap.size w (in2 w s h a b) :=
  (allocS_below w s h).trans ((alloc2_below _ a b).mono (by rw [allocS_size]; omega))
theorem in2_bs (w : World) (s : Sl) (h : Hd) (a b : Int) : BS (in2 w s h a b) w.heap.size s h := (allocS_bs w s h).next (alloc2_below _ a b)
theorem in2_bp (w : World) (s : Sl) (h : Hd) (a b : Int) : BP (in2 w s h a b) (w.heap.size + 1) a b := by
  have := alloc2_bp (allocS w s h) a b
  rwa [allocS_size] at this
/-- What is told of pairs that came in. -/
structure ArgP (w : World) (a : Option Addr) (len cap : Nat) (ps : List (Int × Int)) : Prop where
  hlen : ps.length = len
  hrd : Rd2 w a ps
  hnil : a = Option.none → cap = 0
  hcap : len ≤ cap
  hbig : cap ≤ 9223372036854775807
theorem argP_of {w : World} {a : Option Addr} {len cap : Nat} {zs : List (Int × Int)} (h : Opn.IsRow2 w a len cap zs) : ArgP w a len cap zs := by
  obtain ⟨hl, h⟩ := h
  rcases h with ⟨rfl, rfl, rfl⟩ | ⟨x, rfl, hc, hm, hz⟩
  · exact ⟨hl, .inl (List.eq_nil_of_length_eq_zero hl), fun _ => rfl, Nat.le_refl _, by omega⟩
  · refine ⟨hl, ?_, (by intro h; cases h), hc, (by unfold maxLen at hm; omega)⟩
    rcases Nat.eq_zero_or_pos zs.length with h0 | h0
    · exact .inl (List.eq_nil_of_length_eq_zero h0)
    · right
      obtain ⟨b, o, s⟩ := x
      obtain rfl : s = Option.none := by simpa [Addr.add] using World.cell?_spot (hz 0 h0).1
      refine ⟨b, o, rfl, ?_, fun i hi => ?_⟩
      · exact World.block_lt_of_cell? w ⟨b, o, Option.none⟩ (by have := (hz 0 h0).1; rwa [Nat.zero_mul, Addr.add_lit, Nat.add_zero] at this)
      · have h1 := (hz i hi).1
        have h2 := (hz i hi).2.1
        rw [Addr.add_lit] at h1 h2
        rw [← Nat.add_assoc] at h2
        exact ⟨h1, h2⟩
end Go.Proofs.Ytfdkaahkhgljdaa.Slo

namespace Go.Proofs.Ytfdkaahkhgljdaa.Slo
open Go.RowKit Go.Shelf Go.Sort Go.Proofs.Ytfdkaahkhgljdaa Go.Proofs.Ytfdkaahkhgljdaa.Occ Go.Proofs.Ytfdkaahkhgljdaa.Frac
attribute [local go_sem] sval Oper.semAt_some

theorem prsV_le (s : Sl) (a b : Int) : (prsV s a b).1.length ≤ s.ks.length := by
  unfold prsV
  split
  · rename_i h
    obtain ⟨_, hin⟩ := askS_ok h
    obtain ⟨h0, h1, h2⟩ := inB_iff.1 hin
    rw [prs_length]
    have := occs_length s.ws a.toNat (b - a).toNat
    omega
  · simp

set_option maxRecDepth 100000 in
set_option maxHeartbeats 16000000 in
theorem slotsWhole (x : In) (f t : Int) (ax : Option Addr) (lx cx : Nat) (zx : List Int) (al : Option Addr) (ll cl : Nat) (zl : List (Int × Int)) (w : World) (wx : x.Ok w) (wf : (Lit.int .i64 f).wf = true) (wt : (Lit.int .i64 t).wf = true)
    (rx : Opn.IsRow .i64 w ax lx cx zx) (rl : Opn.IsRow2 w al ll cl zl) :
    Calls Try.prog 8 #[x.val, .agg #[.int .i64 f, .int .i64 t], .slice ax lx cx, .slice al ll cl] w fun e w' => e = .returned (.bool true) ∧ Below w.heap.size w w' := by
  obtain ⟨s, h, e1, S⟩ := wx.open
  obtain ⟨xs, ⟨rfl, hrx, -, -, hcx, hbx⟩⟩ := argK_of rx
  obtain ⟨rfl, hrp, -, hcl, hbl⟩ := argP_of rl
  rw [e1]
  have HS := Lib.hid S
  have HRX := Lib.hid hrx
  have HRP := Lib.hid hrp
  have HLX : Hid (xs.length ≤ 9223372036854775807) := Lib.hid (by omega)
  have HLP : Hid (zl.length ≤ 9223372036854775807) := Lib.hid (by omega)
  clear S e1 wx wf wt x hrx hrp rx rl hcx hbx hcl hbl
  have HG1 := Lib.hid (fun w1 => Great_any s h 300 w1)
  have HAL := Lib.hid alive_any
  have E0 := Lib.hid (((((((St.below' (in2_below w s h f t))).and (St.rd (HS.out.rd.next (in2_below w s h f t)))).and (St.bs (in2_bs w s h f t))).and (St.bp (in2_bp w s h f t))).and (St.rdk (HRX.out.mono (in2_below w s h f t) (Nat.le_refl _)))).and (St.rd2 (HRP.out.mono (in2_below w s h f t) (Nat.le_refl _))))
  cases hg1 : greatB s 300
  case true =>
    rw [hg1] at HG1
    clear hg1
    go_enter Try.func8, Try.ntmps8
    go_wp2_with fail
    rw [allocS_fold, alloc2_fold, show alloc2 (allocS w s h) f t = in2 w s h f t from rfl]
    refine (HAL.out _).mono ?_
    rintro e w1 ⟨rfl, hb⟩
    have E1 := Lib.hid (E0.out.next hb)
    clear hb
    obtain ⟨-, -, -, ⟨⟨bs_0, bs_1, bs_2, bs_3, bs_4, bs_5, -⟩, bs_l⟩, -, -⟩ := E1.out.now
    go_wp2_with fail
    refine (HG1.out _).mono ?_
    rintro e w2 ⟨rfl, hb⟩
    clear bs_0 bs_1 bs_2 bs_3 bs_4 bs_5 bs_l
    have E2 := Lib.hid (E1.out.next hb)
    clear hb
    go_wp2
    go_ret
    exact ⟨rfl, E2.out.now.2.2.2.2.2⟩
  rw [hg1] at HG1
  have hls := greatB_no (m := 300) hg1
  obtain ⟨hl1, hl2, hl3, hl4⟩ := hls
  have HW := Lib.hid (HS.out.wf ⟨by omega, by omega, by omega, by omega⟩)
  have HKL : Hid (s.ks.length ≤ 300) := Lib.hid hl2
  clear hg1 hl1 hl2 hl3 hl4
  by_cases hx3 : 300 < xs.length
  · go_enter Try.func8, Try.ntmps8
    go_wp2_with fail
    rw [allocS_fold, alloc2_fold, show alloc2 (allocS w s h) f t = in2 w s h f t from rfl]
    refine (HAL.out _).mono ?_
    rintro e w1 ⟨rfl, hb⟩
    have E1 := Lib.hid (E0.out.next hb)
    clear hb
    obtain ⟨-, -, -, ⟨⟨bs_0, bs_1, bs_2, bs_3, bs_4, bs_5, -⟩, bs_l⟩, -, -⟩ := E1.out.now
    go_wp2_with fail
    refine (HG1.out _).mono ?_
    rintro e w2 ⟨rfl, hb⟩
    clear bs_0 bs_1 bs_2 bs_3 bs_4 bs_5 bs_l
    have E2 := Lib.hid (E1.out.next hb)
    clear hb
    go_wp2
    go_ret
    exact ⟨rfl, E2.out.now.2.2.2.2.2⟩
  by_cases hp3 : 300 < zl.length
  · go_enter Try.func8, Try.ntmps8
    go_wp2_with fail
    rw [allocS_fold, alloc2_fold, show alloc2 (allocS w s h) f t = in2 w s h f t from rfl]
    refine (HAL.out _).mono ?_
    rintro e w1 ⟨rfl, hb⟩
    have E1 := Lib.hid (E0.out.next hb)
    clear hb
    obtain ⟨-, -, -, ⟨⟨bs_0, bs_1, bs_2, bs_3, bs_4, bs_5, -⟩, bs_l⟩, -, -⟩ := E1.out.now
    go_wp2_with fail
    refine (HG1.out _).mono ?_
    rintro e w2 ⟨rfl, hb⟩
    clear bs_0 bs_1 bs_2 bs_3 bs_4 bs_5 bs_l
    have E2 := Lib.hid (E1.out.next hb)
    clear hb
    go_wp2
    go_ret
    exact ⟨rfl, E2.out.now.2.2.2.2.2⟩
  have HF := Lib.hid (fun w1 (R : SRd w1 s h) (RX : Rd .i64 w1 ax xs) (RL : Rd2 w1 al zl) => Fill_any s h f t ax cx xs al cl zl w1 HW.out R RX RL HLX.out HLP.out)
  by_cases hz : (fillSV s f t xs zl).2 ≠ 0
  · have HX : Hid ((fillSV s f t xs zl).1.ks.length = 0) := Lib.hid (by rw [fillSV_no hz]; rfl)
    generalize fillSV s f t xs zl = V at *
    obtain ⟨X, e⟩ := V
    dsimp only at hz HX
    have hb : (e != 0) = true := by rw [bne_iff_ne]; exact hz
    clear hz
    go_enter Try.func8, Try.ntmps8
    go_wp2_with fail
    rw [allocS_fold, alloc2_fold, show alloc2 (allocS w s h) f t = in2 w s h f t from rfl]
    refine (HAL.out _).mono ?_
    rintro e w1 ⟨rfl, hb⟩
    have E1 := Lib.hid (E0.out.next hb)
    clear hb
    obtain ⟨-, -, -, ⟨⟨bs_0, bs_1, bs_2, bs_3, bs_4, bs_5, -⟩, bs_l⟩, -, -⟩ := E1.out.now
    go_wp2_with fail
    refine (HG1.out _).mono ?_
    rintro e w2 ⟨rfl, hb⟩
    clear bs_0 bs_1 bs_2 bs_3 bs_4 bs_5 bs_l
    have E2 := Lib.hid (E1.out.next hb)
    clear hb
    obtain ⟨-, -, ⟨⟨bt_0, bt_1, -⟩, bt_l⟩, ⟨⟨bs_0, bs_1, bs_2, bs_3, bs_4, bs_5, -⟩, bs_l⟩, -, -⟩ := E2.out.now
    go_wp2_with fail
    clear bs_0 bs_1 bs_2 bs_3 bs_4 bs_5 bs_l bt_0 bt_1 bt_l
    refine (HF.out _ E2.out.now.2.2.2.2.1 E2.out.now.2.1 E2.out.now.1).mono ?_
    rintro e w3 ⟨h1, rfl, ho, hb⟩
    have E3 := Lib.hid ((E2.out.next hb).and (St.own ho))
    clear hb
    have hxl := HX.out
    go_wp2
    go_ret
    exact ⟨by simp, (E3.out.now.2.2.2.2.2.2).alloc (E3.out.now.2.2.2.2.2.2).size _⟩
  · obtain ⟨X, hX, T⟩ := whole_of HS.out.u HS.out.laid (by simpa using hz)
    rw [hX] at HF
    have HXL : Hid (X.ks.length = s.ks.length) := Lib.hid T.lk
    clear hX hz
    have HT := Lib.hid T
    have hll : ((xs.length : Int) != (zl.length : Int)) = false := by rw [T.len]; simp
    have hlx : (X.laid == IntKind.u64.wrap (s.laid + (zl.length : Int))) = true := by rw [T.laid]; simp
    have HP1 := Lib.hid (fun h1 w1 (R : SRd w1 X h1) => sPairs_any X h1 f t w1 T.wx R)
    rw [T.pin] at HP1
    have HP2 := Lib.hid (fun h1 w1 (R : SRd w1 X h1) => sPairs_any X h1 0 f w1 T.wx R)
    rw [T.pa.1] at HP2
    have HP3 := Lib.hid (fun w1 (R : SRd w1 s h) => sPairs_any s h 0 f w1 HW.out R)
    have HP4 := Lib.hid (fun h1 w1 (R : SRd w1 X h1) => sPairs_any X h1 t X.ks.length w1 T.wx R)
    rw [T.pc.1] at HP4
    have HP5 := Lib.hid (fun w1 (R : SRd w1 s h) => sPairs_any s h t s.ks.length w1 HW.out R)
    have ha := T.pa.2
    have hc := T.pc.2
    have HLA : Hid ((prsV s 0 f).1.length ≤ 1000000) := Lib.hid (by have := prsV_le s 0 f; have := HKL.out; omega)
    have HLC : Hid ((prsV s t s.ks.length).1.length ≤ 1000000) := Lib.hid (by have := prsV_le s t s.ks.length; have := HKL.out; omega)
    generalize prsV s 0 f = VA at *
    obtain ⟨LA, ea⟩ := VA
    generalize prsV s t s.ks.length = VC at *
    obtain ⟨LC, ec⟩ := VC
    dsimp only at ha hc HLA HLC
    subst ha
    subst hc
    have HKX := Lib.hid (fun h1 w1 (R : SRd w1 X h1) => sCheck_any X h1 w1 T.wx R)
    rw [T.ck] at HKX
    have HIS : Hid (∀ k h1 w1, k < xs.length → SRd w1 X h1 → Calls Try.prog 35 #[sval X h1, .int .i64 (xs.getD k 0), .agg #[.int .i64 (zl.getD k (0, 0)).1, .int .i64 (zl.getD k (0, 0)).2]] w1 fun e w' => e = .returned (.bool true) ∧ Below w1.heap.size w1 w') := Lib.hid (fun k h1 w1 hk R => by
      have := is_ask X h1 (xs.getD k 0) (zl.getD k (0, 0)).1 (zl.getD k (0, 0)).2 w1 T.wx R
      rwa [show decide (atV X (xs.getD k 0) = (((zl.getD k (0, 0)).1, (zl.getD k (0, 0)).2), 0)) = true by rw [T.at_ k hk]; simp] at this)
    clear T
    go_enter Try.func8, Try.ntmps8
    go_wp2_with fail
    rw [allocS_fold, alloc2_fold, show alloc2 (allocS w s h) f t = in2 w s h f t from rfl]
    refine (HAL.out _).mono ?_
    rintro e w1 ⟨rfl, hb⟩
    have E1 := Lib.hid (E0.out.next hb)
    clear hb
    obtain ⟨-, -, -, ⟨⟨bs_0, bs_1, bs_2, bs_3, bs_4, bs_5, -⟩, bs_l⟩, -, -⟩ := E1.out.now
    go_wp2_with fail
    refine (HG1.out _).mono ?_
    rintro e w2 ⟨rfl, hb⟩
    clear bs_0 bs_1 bs_2 bs_3 bs_4 bs_5 bs_l
    have E2 := Lib.hid (E1.out.next hb)
    clear hb
    obtain ⟨-, -, ⟨⟨bt_0, bt_1, -⟩, bt_l⟩, ⟨⟨bs_0, bs_1, bs_2, bs_3, bs_4, bs_5, -⟩, bs_l⟩, -, -⟩ := E2.out.now
    go_wp2_with fail
    clear bs_0 bs_1 bs_2 bs_3 bs_4 bs_5 bs_l bt_0 bt_1 bt_l
    refine (HF.out _ E2.out.now.2.2.2.2.1 E2.out.now.2.1 E2.out.now.1).mono ?_
    rintro e w3 ⟨h1, rfl, ho, hb⟩
    have E3 := Lib.hid ((E2.out.next hb).and (St.own ho))
    clear hb
    clear HF HG1 HAL
    obtain ⟨-, -, -, ⟨⟨bt_0, bt_1, -⟩, bt_l⟩, -, -, -⟩ := E3.out.now
    go_wp2_with fail
    clear bt_0 bt_1 bt_l
    rw [allocS_fold]
    have E4 := Lib.hid ((E3.out.next (allocS_below w3 X h1)).and (St.bs (allocS_bs w3 X h1)))
    generalize allocS w3 X h1 = w4 at *
    refine (HP1.out h1 _ (SOwn.rd E4.out.now.2.1)).mono ?_
    rintro e w5 ⟨v, rfl, ho, hb⟩
    obtain ⟨ap1, cp1, rfl, -, hr2, -⟩ := owns2_arg ho
    clear ho
    have E5 := Lib.hid ((E4.out.next hb).and (St.rd2 hr2))
    clear hb
    obtain ⟨-, ⟨⟨bx_0, bx_1, bx_2, bx_3, bx_4, bx_5, -⟩, bx_l⟩, -, -, -, ⟨⟨bt_0, bt_1, -⟩, bt_l⟩, -, -, -⟩ := E5.out.now
    go_wp2_with fail
    clear bx_0 bx_1 bx_2 bx_3 bx_4 bx_5 bx_l bt_0 bt_1 bt_l
    refine (HP2.out h1 _ (SOwn.rd E5.out.now.2.2.1)).mono ?_
    rintro e w6 ⟨v, rfl, ho, hb⟩
    obtain ⟨ap2, cp2, rfl, -, hr2, -⟩ := owns2_arg ho
    clear ho
    have E6 := Lib.hid ((E5.out.next hb).and (St.rd2 hr2))
    clear hb
    obtain ⟨-, -, -, -, -, -, ⟨⟨bt_0, bt_1, -⟩, bt_l⟩, ⟨⟨bs_0, bs_1, bs_2, bs_3, bs_4, bs_5, -⟩, bs_l⟩, -, -⟩ := E6.out.now
    go_wp2_with fail
    clear bs_0 bs_1 bs_2 bs_3 bs_4 bs_5 bs_l bt_0 bt_1 bt_l
    refine (HP3.out _ E6.out.now.2.2.2.2.2.2.2.2.1).mono ?_
    rintro e w7 ⟨v, rfl, ho, hb⟩
    obtain ⟨ap3, cp3, rfl, -, hr2, -⟩ := owns2_arg ho
    clear ho
    have E7 := Lib.hid ((E6.out.next hb).and (St.rd2 hr2))
    clear hb
    obtain ⟨-, -, -, ⟨⟨bx_0, bx_1, bx_2, bx_3, bx_4, bx_5, -⟩, bx_l⟩, -, -, -, ⟨⟨bt_0, bt_1, -⟩, bt_l⟩, -, -, -⟩ := E7.out.now
    go_wp2_with fail
    clear bx_0 bx_1 bx_2 bx_3 bx_4 bx_5 bx_l bt_0 bt_1 bt_l
    refine (HP4.out h1 _ (SOwn.rd E7.out.now.2.2.2.2.1)).mono ?_
    rintro e w8 ⟨v, rfl, ho, hb⟩
    obtain ⟨ap4, cp4, rfl, -, hr2, -⟩ := owns2_arg ho
    clear ho
    have E8 := Lib.hid ((E7.out.next hb).and (St.rd2 hr2))
    clear hb
    obtain ⟨-, -, -, -, -, -, -, -, ⟨⟨bt_0, bt_1, -⟩, bt_l⟩, ⟨⟨bs_0, bs_1, bs_2, bs_3, bs_4, bs_5, -⟩, bs_l⟩, -, -⟩ := E8.out.now
    go_wp2_with fail
    clear bs_0 bs_1 bs_2 bs_3 bs_4 bs_5 bs_l bt_0 bt_1 bt_l
    refine (HP5.out _ E8.out.now.2.2.2.2.2.2.2.2.2.2.1).mono ?_
    rintro e w9 ⟨v, rfl, ho, hb⟩
    obtain ⟨ap5, cp5, rfl, -, hr2, -⟩ := owns2_arg ho
    clear ho
    have E9 := Lib.hid ((E8.out.next hb).and (St.rd2 hr2))
    clear hb
    clear HP1 HP2 HP3 HP4 HP5
    go_wp2_with fail
    go_loopw [22] (fun i wr => ∃ k : Nat, k ≤ xs.length ∧ i = .int .i64 k ∧ Below w9.heap.size w9 wr) (fun i _ => xs.length - (intOf i).toNat)
    case atStart => exact ⟨0, Nat.zero_le _, rfl, Below.refl _ _⟩
    case round =>
      obtain ⟨k, hk, rfl, hb⟩ := hrel
      have HB := Lib.hid hb
      have E10 := Lib.hid ((E9.out.next hb).and (St.below' hb))
      clear hb
      have hx4 : xs.length ≤ 300 := by omega
      by_cases hlt : k < xs.length
      · have hlt2 : k < zl.length := by have := HT.out.len; omega
        have HI := Lib.hid (fun w1 R => HIS.out k h1 w1 hlt R)
        obtain ⟨ba, oa, rfl, hba, -⟩ := rd_at E10.out.now.2.2.2.2.2.2.2.2.2.1 hlt
        obtain ⟨bl, ol, rfl, -, -⟩ := Rd2.at E10.out.now.2.2.2.2.2.2.2.2.1 (Below.refl _ _) (Nat.le_refl _) hlt2
        have HRC := Lib.hid (fun W (R : Rd .i64 W (some ⟨ba, oa, Option.none⟩) xs) => rd_at R hlt)
        have HRD := Lib.hid (fun W (R : Rd2 W (some ⟨bl, ol, Option.none⟩) zl) => Rd2.at R (Below.refl _ _) (Nat.le_refl _) hlt2)
        generalize xs.getD k 0 = xk at *
        generalize zl.getD k (0, 0) = pk at *
        obtain ⟨pk1, pk2⟩ := pk
        dsimp only at HI HRD
        go_wp2_with fail
        refine region_qb' wr wr.heap.size (Below.refl _ _) mixed' (by kernel_rfl) fun w11 hB hz => ?_
        have E11 := Lib.hid (E10.out.next hB)
        clear hB hz
        have EC := Lib.hid (fun d os => E11.out.next (below_regrown w11 d os))
        obtain ⟨-, -, -, -, -, -, ⟨⟨bx_0, bx_1, bx_2, bx_3, bx_4, bx_5, -⟩, bx_l⟩, -, -, -, -, -, -, -⟩ := E11.out.now
        obtain ⟨bu, ou, e3, -, ca⟩ := HRC.out _ E11.out.now.2.2.2.2.2.2.2.2.2.1
        cases e3
        obtain ⟨bv, ov, e4, ce, cf⟩ := HRD.out _ E11.out.now.2.2.2.2.2.2.2.2.1
        cases e4
        have qbx_0 := cell_regrown bx_0
        have qbx_1 := cell_regrown bx_1
        have qbx_2 := cell_regrown bx_2
        have qbx_3 := cell_regrown bx_3
        have qbx_4 := cell_regrown bx_4
        have qbx_5 := cell_regrown bx_5
        have qca := cell_regrown ca
        have qce := cell_regrown ce
        have qcf := cell_regrown cf
        clear bx_0 bx_1 bx_2 bx_3 bx_4 bx_5 bx_l
        clear ca ce cf
        repeat (go_big_quiet_step (first | exact Calls.regrown_of (HI.out _ (SOwn.rd (EC.out _ _).now.2.2.2.2.2.2.2.1))))
        refine wpQuiet_nil ?_
        rintro _ ⟨⟨dq, osq⟩, rfl⟩
        have E12 := Lib.hid (EC.out dq osq)
        generalize grow (redrawn w11 dq) osq = w12 at *
        clear EC qbx_0 qbx_1 qbx_2 qbx_3 qbx_4 qbx_5 qca qce qcf
        go_wp2
        go_roundw
        case rel => exact ⟨k + 1, by omega, by go_num, E12.out.now.1⟩
        case measure => simp [intOf]; omega
      · obtain rfl : k = xs.length := by omega
        have HS1 := Lib.hid (samePairs_any ap1 al cp1 cl zl zl _ E10.out.now.2.2.2.2.2.1 E10.out.now.2.2.2.2.2.2.2.2.1 (by omega) (by omega))
        rw [show decide (zl = zl) = true by simp] at HS1
        go_wp2_with fail
        refine (HS1.out).mono ?_
        rintro e w11 ⟨rfl, hb⟩
        have E11 := Lib.hid (E10.out.next hb)
        clear hb
        clear HS1
        have HS2 := Lib.hid (samePairs_any ap2 ap3 cp2 cp3 LA LA _ E11.out.now.2.2.2.2.1 E11.out.now.2.2.2.1 HLA.out HLA.out)
        rw [show decide (LA = LA) = true by simp] at HS2
        go_wp2_with fail
        refine (HS2.out).mono ?_
        rintro e w12 ⟨rfl, hb⟩
        have E12 := Lib.hid (E11.out.next hb)
        clear hb
        clear HS2
        have HS3 := Lib.hid (samePairs_any ap4 ap5 cp4 cp5 LC LC _ E12.out.now.2.2.1 E12.out.now.2.1 HLC.out HLC.out)
        rw [show decide (LC = LC) = true by simp] at HS3
        go_wp2_with fail
        refine (HS3.out).mono ?_
        rintro e w13 ⟨rfl, hb⟩
        have E13 := Lib.hid (E12.out.next hb)
        clear hb
        clear HS3
        obtain ⟨-, -, -, -, -, -, ⟨⟨bx_0, bx_1, bx_2, bx_3, bx_4, bx_5, -⟩, bx_l⟩, -, -, -, -, ⟨⟨bs_0, bs_1, bs_2, bs_3, bs_4, bs_5, -⟩, bs_l⟩, -, -⟩ := E13.out.now
        go_wp2_with fail
        clear bx_0 bx_1 bx_2 bx_3 bx_4 bx_5 bx_l bs_0 bs_1 bs_2 bs_3 bs_4 bs_5 bs_l
        refine (HKX.out h1 _ (SOwn.rd E13.out.now.2.2.2.2.2.2.2.1)).mono ?_
        rintro e w14 ⟨rfl, hb⟩
        have E14 := Lib.hid (E13.out.next hb)
        clear hb
        go_wp2_with fail
        go_ret
        exact ⟨by simp, E14.out.now.2.2.2.2.2.2.2.2.2.2.2.2.2⟩
end Go.Proofs.Ytfdkaahkhgljdaa.Slo
