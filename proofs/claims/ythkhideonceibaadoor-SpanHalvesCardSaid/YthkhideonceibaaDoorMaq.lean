/- Package span's laws, in plain Lean: numbers of keys, neighbours, runs of two halves. Package span's laws: the chapter's slots; is that the pair of a key; the chapter's examples. -/
import Derived.Test.YthkhideonceibaaDoorMap
set_option linter.unusedSimpArgs false
set_option linter.unusedVariables false
namespace Go.Proofs.YthkhideonceibaaDoor.Span
open Go.RowKit Go.Shelf Go.Sort Go.Proofs.YthkhideonceibaaDoor Go.Proofs.YthkhideonceibaaDoor.Occ Go.Proofs.YthkhideonceibaaDoor.Slo Go.Proofs.YthkhideonceibaaDoor.Seek

theorem bel_num {l : List (Int × Int)} (hr : riseB l = true) {i : Nat} (hi : i < l.length) : bel l (l.getD i (0, 0)).1 = i := by
  have hle := bel_le l (l.getD i (0, 0)).1
  rcases Nat.lt_trichotomy (bel l (l.getD i (0, 0)).1) i with g | g | g
  · have h1 := rise_lt hr i _ g hi
    have := (bel_iff hr (l.getD i (0, 0)).1 (i := bel l (l.getD i (0, 0)).1) (by omega)).1 h1
    omega
  · exact g
  · have := (bel_iff hr (l.getD i (0, 0)).1 hi).2 g
    omega
theorem rise_ne {l : List (Int × Int)} (hr : riseB l = true) {i j : Nat} (hi : i < l.length) (hj : j < l.length) (h : i ≠ j) : (l.getD i (0, 0)).1 ≠ (l.getD j (0, 0)).1 := by
  rcases Nat.lt_or_gt_of_ne h with g | g
  · have := rise_lt hr j i g hj; omega
  · have := rise_lt hr i j g hi; omega
theorem allP_small {s : Sl} (hk : chkK s = 0) : (allP s).length ≤ 65536 := by
  obtain ⟨g, q, o⟩ := okS_iff.1 (chkK_ok hk).1
  have h1 := o.n1
  have h2 := occs_length s.ws 0 s.ks.length
  have h3 := allP_length s
  unfold slotsL at h3
  omega
theorem allP_le (s : Sl) : (allP s).length ≤ s.ks.length := by
  have h2 := occs_length s.ws 0 s.ks.length
  have h3 := allP_length s
  unfold slotsL at h3
  omega
theorem selV_in {s : Sl} (hk : chkK s = 0) {i : Nat} (hi : i < (allP s).length) : selV s (i : Int) = ((allP s).getD i (0, 0), 0) := by
  unfold selV
  rw [if_pos hk, if_pos ⟨by omega, by omega⟩, Int.toNat_natCast]
theorem selV_out {s : Sl} (hk : chkK s = 0) {k : Int} (h : ¬ (0 ≤ k ∧ k < ((allP s).length : Int))) : selV s k = ((0, 0), 290) := by
  unfold selV
  rw [if_pos hk, if_neg h]

structure Nums (s : Sl) (k x y c1 c2 d1 d2 u v m : Int) : Prop where
  sel : selV s k = ((x, y), 0)
  rank : rankV s x = (k, 0)
  floor : floorV s x = ((x, y), 0)
  ceil : ceilV s x = ((x, y), 0)
  min : minV s = ((c1, c2), 0)
  max : maxV s = ((d1, d2), 0)
  nxt : selV s (k + 1) = ((u, v), m)
  c : (c1 = x ∧ c2 = y ∧ k = 0) ∨ (c1 ≠ x ∧ k ≠ 0)
  d : (d1 = x ∧ d2 = y ∧ m = 290) ∨ (d1 ≠ x ∧ m = 0)
  wr : IntKind.i64.wrap (k + 1) = k + 1
  k9 : k + 1 ≤ 9223372036854775807
theorem nums_of {s : Sl} {k : Int} (hk : chkK s = 0) (h : 0 ≤ k ∧ k < ((allP s).length : Int)) : ∃ x y c1 c2 d1 d2 u v m, Nums s k x y c1 c2 d1 d2 u v m := by
  obtain ⟨n, rfl⟩ : ∃ n : Nat, k = n := ⟨k.toNat, by omega⟩
  have hsm := allP_small hk
  obtain ⟨hok, hr⟩ := chkK_ok hk
  have hn : n < (allP s).length := by omega
  have hb := bel_num hr hn
  refine ⟨((allP s).getD n (0, 0)).1, ((allP s).getD n (0, 0)).2, ((allP s).getD 0 (0, 0)).1, ((allP s).getD 0 (0, 0)).2, ((allP s).getD ((allP s).length - 1) (0, 0)).1, ((allP s).getD ((allP s).length - 1) (0, 0)).2,
    (selV s ((n : Int) + 1)).1.1, (selV s ((n : Int) + 1)).1.2, (selV s ((n : Int) + 1)).2, selV_in hk hn, ?_, ?_, ?_, ?_, ?_, rfl, ?_, ?_, ?_, by omega⟩
  · unfold rankV; rw [if_pos hk, hb]
  · unfold floorV
    rw [if_pos hk]
    refine floor_at hr _ hn (Int.le_refl _) fun j h1 h2 => rise_lt hr j n h1 h2
  · unfold ceilV
    rw [if_pos hk, hb, if_pos hn]
  · unfold minV
    rw [if_pos hk, if_neg (by omega)]
  · unfold maxV
    rw [if_pos hk, if_neg (by omega)]
  · by_cases h0 : n = 0
    · subst h0; exact .inl ⟨rfl, rfl, rfl⟩
    · exact .inr ⟨rise_ne hr (by omega) hn (by omega), by omega⟩
  · by_cases h0 : n + 1 < (allP s).length
    · refine .inr ⟨rise_ne hr (by omega) hn (by omega), ?_⟩
      have := selV_in hk h0
      rw [Int.natCast_add] at this
      rw [show ((n : Int) + 1) = (n : Int) + ((1 : Nat) : Int) from rfl, this]
    · refine .inl ?_
      rw [show (allP s).length - 1 = n by omega, selV_out hk (k := (n : Int) + 1) (by omega)]
      exact ⟨rfl, rfl, rfl⟩
  · rw [IntKind.wrap_i64]; omega

structure Betw (s : Sl) (key : Int) (a1 a2 f b1 b2 g h i : Int) : Prop where
  floor : floorV s key = ((a1, a2), f)
  ceil : ceilV s key = ((b1, b2), g)
  lo : selV s ((bel (allP s) key : Int) - 1) = ((a1, a2), h)
  hi : selV s (bel (allP s) key : Int) = ((b1, b2), i)
  a : (f = 0 ∧ h = 0 ∧ a1 < key) ∨ (f = 6 ∧ h = 290)
  b : (g = 0 ∧ i = 0 ∧ key < b1) ∨ (g = 6 ∧ i = 290)
theorem betw_of {s : Sl} {key : Int} (hk : chkK s = 0) : (∃ y, floorV s key = ((key, y), 0) ∧ ceilV s key = ((key, y), 0)) ∨ ∃ a1 a2 f b1 b2 g h i, Betw s key a1 a2 f b1 b2 g h i := by
  obtain ⟨hok, hr⟩ := chkK_ok hk
  have hle := bel_le (allP s) key
  by_cases hx : bel (allP s) key < (allP s).length ∧ ((allP s).getD (bel (allP s) key) (0, 0)).1 = key
  · refine .inl ⟨((allP s).getD (bel (allP s) key) (0, 0)).2, ?_, ?_⟩
    · unfold floorV floorL
      rw [if_pos hk, if_pos hx]
      exact congrArg (fun p => (p, (0 : Int))) (Prod.ext hx.2 rfl)
    · unfold ceilV
      rw [if_pos hk, if_pos hx.1]
      exact congrArg (fun p => (p, (0 : Int))) (Prod.ext hx.2 rfl)
  · have hf : floorV s key = if bel (allP s) key = 0 then ((0, 0), 6) else ((allP s).getD (bel (allP s) key - 1) (0, 0), 0) := by
      unfold floorV floorL
      rw [if_pos hk, if_neg hx]
    have hc : ceilV s key = if bel (allP s) key < (allP s).length then ((allP s).getD (bel (allP s) key) (0, 0), 0) else ((0, 0), 6) := by
      unfold ceilV
      rw [if_pos hk]
    refine .inr ⟨(selV s ((bel (allP s) key : Int) - 1)).1.1, (selV s ((bel (allP s) key : Int) - 1)).1.2, (floorV s key).2, (selV s (bel (allP s) key : Int)).1.1, (selV s (bel (allP s) key : Int)).1.2, (ceilV s key).2, (selV s ((bel (allP s) key : Int) - 1)).2, (selV s (bel (allP s) key : Int)).2, ?_, ?_, rfl, rfl, ?_, ?_⟩
    · rw [hf]
      by_cases h0 : bel (allP s) key = 0
      · rw [if_pos h0, h0, selV_out hk (by omega)]
      · rw [if_neg h0, show ((bel (allP s) key : Int) - 1) = ((bel (allP s) key - 1 : Nat) : Int) by omega, selV_in hk (by omega)]
    · rw [hc]
      by_cases h0 : bel (allP s) key < (allP s).length
      · rw [if_pos h0, selV_in hk h0]
      · rw [if_neg h0, selV_out hk (by omega)]
    · rw [hf]
      by_cases h0 : bel (allP s) key = 0
      · rw [if_pos h0, h0, selV_out hk (by omega)]; exact .inr ⟨rfl, rfl⟩
      · rw [if_neg h0, show ((bel (allP s) key : Int) - 1) = ((bel (allP s) key - 1 : Nat) : Int) by omega, selV_in hk (by omega)]
        exact .inl ⟨rfl, rfl, (bel_iff hr key (by omega)).2 (by omega)⟩
    · rw [hc]
      by_cases h0 : bel (allP s) key < (allP s).length
      · rw [if_pos h0, selV_in hk h0]
        refine .inl ⟨rfl, rfl, ?_⟩
        have h1 : ¬ ((allP s).getD (bel (allP s) key) (0, 0)).1 < key := fun g => absurd ((bel_iff hr key h0).1 g) (Nat.lt_irrefl _)
        have h2 : ((allP s).getD (bel (allP s) key) (0, 0)).1 ≠ key := fun g => hx ⟨h0, g⟩
        dsimp only
        omega
      · rw [if_neg h0, selV_out hk (by omega)]; exact .inr ⟨rfl, rfl⟩

/-- Runs of two halves. -/
theorem run_split {l : List (Int × Int)} (hr : riseB l = true) {a b c : Int} (h1 : a ≤ b) (h2 : b < c) : runL l a c = runL l a b ++ runL l (b + 1) c := by
  induction l with
  | nil => rfl
  | cons p l ih =>
    have hr' : riseB l = true := riseB_iff.2 fun j hj => by
      have := riseB_iff.1 hr (j + 1) (by simp; omega)
      simpa using this
    have hall : ∀ q ∈ l, p.1 < q.1 := fun q hq => by
      obtain ⟨j, hj, rfl⟩ := List.getElem_of_mem hq
      have := rise_lt hr (j + 1) 0 (by omega) (by simp; omega)
      simpa [List.getD_eq_getElem?_getD, hj] using this
    have ih := ih hr'
    unfold runL at ih ⊢
    simp only [List.filter_cons]
    by_cases g1 : p.1 < a
    · have e1 : ¬ a ≤ p.1 := by omega
      have e2 : ¬ b + 1 ≤ p.1 := by omega
      simp only [e1, e2, decide_false, Bool.false_and]
      exact ih
    · have e1 : a ≤ p.1 := by omega
      by_cases g2 : p.1 ≤ b
      · have e2 : ¬ b + 1 ≤ p.1 := by omega
        have e3 : p.1 ≤ c := by omega
        simp only [e1, e2, e3, g2, decide_true, decide_false, Bool.and_self, Bool.false_and, if_true]
        rw [ih]; rfl
      · have hz : l.filter (fun p => decide (a ≤ p.1) && decide (p.1 ≤ b)) = [] := by
          rw [List.filter_eq_nil_iff]
          intro q hq
          have := hall q hq
          simp; omega
        rw [hz] at ih ⊢
        have e2 : b + 1 ≤ p.1 := by omega
        by_cases g3 : p.1 ≤ c
        · simp only [e1, e2, g2, g3, decide_true, decide_false, Bool.and_self, Bool.and_false, if_true]
          rw [ih]; rfl
        · simp only [e1, e2, g2, g3, decide_false, Bool.and_false]
          exact ih
theorem tw_after {α : Type} (p : α → Bool) (d : α) : ∀ l : List α, (l.takeWhile p).length < l.length → p (l.getD (l.takeWhile p).length d) = false
  | [], h => by simp at h
  | x :: l, h => by
    rw [List.takeWhile_cons] at h ⊢
    by_cases hx : p x = true
    · rw [if_pos hx] at h ⊢
      simp only [List.length_cons, List.getD_cons_succ] at h ⊢
      exact tw_after p d l (by omega)
    · rw [if_neg hx] at h ⊢
      simpa using hx
theorem tw_get {α : Type} (p : α → Bool) (d : α) : ∀ (l : List α) (i : Nat), i < (l.takeWhile p).length → (l.takeWhile p).getD i d = l.getD i d
  | [], i, h => by simp at h
  | x :: l, i, h => by
    rw [List.takeWhile_cons] at h ⊢
    by_cases hx : p x = true
    · rw [if_pos hx] at h ⊢
      cases i with
      | zero => rfl
      | succ i =>
        simp only [List.length_cons, List.getD_cons_succ] at h ⊢
        exact tw_get p d l i (by omega)
    · rw [if_neg hx] at h
      simp at h
theorem getD_drop {α : Type} (l : List α) (n i : Nat) (d : α) : (l.drop n).getD i d = l.getD (n + i) d := by
  simp [List.getD_eq_getElem?_getD, List.getElem?_drop]

structure Halv (s : Sl) (a b c : Int) (X Y Z : List (Int × Int)) (r : Nat) : Prop where
  x : scanV s a b 1000 = (X, 0)
  y : scanV s (b + 1) c 1000 = (Y, 0)
  z : scanV s a c 1000 = (Z, 0)
  zz : X ++ Y = Z
  rank : rankV s a = ((r : Int), 0)
  lens : r ≤ 600 ∧ X.length + Y.length ≤ 600 ∧ Z.length ≤ 600
  at_ : ∀ i, i < Z.length → selV s ((r + i : Nat) : Int) = (Z.getD i (0, 0), 0) ∧ a ≤ (Z.getD i (0, 0)).1 ∧ (Z.getD i (0, 0)).1 ≤ c
  fin : ∃ u v m, selV s ((r + Z.length : Nat) : Int) = ((u, v), m) ∧ (m = 290 ∨ (m = 0 ∧ c < u))
theorem scan_whole {s : Sl} (hk : chkK s = 0) (hl : (allP s).length ≤ 600) (a b : Int) : scanV s a b 1000 = (runL (allP s) a b, 0) := by
  unfold scanV
  rw [if_neg (by simpa using hk), if_neg (by omega), List.take_of_length_le]
  have := List.length_filter_le (fun p => decide (a ≤ p.1) && decide (p.1 ≤ b)) (allP s)
  unfold runL
  simp only [Int.reduceToNat]
  omega
theorem halv_of {s : Sl} (hk : chkK s = 0) (hl : s.ks.length ≤ 600) {a b c : Int} (h1 : a ≤ b) (h2 : b < c) : ∃ X Y Z r, Halv s a b c X Y Z r := by
  obtain ⟨hok, hr⟩ := chkK_ok hk
  have hl : (allP s).length ≤ 600 := Nat.le_trans (allP_le s) hl
  have hs := run_split hr h1 h2
  have hd := run_drop hr a c
  have hle := bel_le (allP s) a
  have hlen : (runL (allP s) a c).length ≤ (allP s).length - bel (allP s) a := by
    rw [hd, ← List.length_drop]
    exact (List.takeWhile_prefix _).length_le
  have hget : ∀ i, i < (runL (allP s) a c).length → (runL (allP s) a c).getD i (0, 0) = (allP s).getD (bel (allP s) a + i) (0, 0) := fun i hi => by
    rw [hd] at hi ⊢
    rw [tw_get _ _ _ _ hi, getD_drop]
  refine ⟨runL (allP s) a b, runL (allP s) (b + 1) c, runL (allP s) a c, bel (allP s) a, scan_whole hk hl _ _, scan_whole hk hl _ _, scan_whole hk hl _ _, hs.symm, ?_, ⟨by omega, ?_, by omega⟩, ?_, ?_⟩
  · unfold rankV; rw [if_pos hk]
  · rw [← List.length_append, ← hs]; omega
  · intro i hi
    rw [selV_in hk (by omega), ← hget i hi]
    have hm : (runL (allP s) a c).getD i (0, 0) ∈ runL (allP s) a c := by
      rw [List.getD_eq_getElem?_getD, List.getElem?_eq_getElem hi]
      exact List.getElem_mem hi
    have hf := (List.mem_filter.1 (by unfold runL at hm; exact hm)).2
    simp only [Bool.and_eq_true, decide_eq_true_eq] at hf
    exact ⟨rfl, hf⟩
  · by_cases h0 : bel (allP s) a + (runL (allP s) a c).length < (allP s).length
    · refine ⟨_, _, 0, selV_in hk h0, .inr ⟨rfl, ?_⟩⟩
      have := tw_after (fun p : Int × Int => decide (p.1 ≤ c)) (0, 0) ((allP s).drop (bel (allP s) a)) (by rw [← hd, List.length_drop]; omega)
      rw [← hd, getD_drop] at this
      exact Int.not_le.1 (of_decide_eq_false this)
    · exact ⟨0, 0, 290, selV_out hk (by omega), .inl rfl⟩
end Go.Proofs.YthkhideonceibaaDoor.Span

namespace Go.Proofs.YthkhideonceibaaDoor.Span
open Go.RowKit Go.Shelf Go.Sort Go.Proofs.YthkhideonceibaaDoor Go.Proofs.YthkhideonceibaaDoor.Occ Go.Proofs.YthkhideonceibaaDoor.Slo Go.Proofs.YthkhideonceibaaDoor.Seek
attribute [local go_sem] sval Oper.semAt_some

theorem wfS {s : Sl} (h1 : (Lit.int .i64 s.seg).wf = true) (h2 : (s.ws.all fun z => decide (0 ≤ z ∧ z < 18446744073709551616)) = true) (h3 : decide (0 ≤ s.laid ∧ s.laid < 18446744073709551616) = true)
    (h4 : decide (s.ws.length ≤ 100000 ∧ s.ks.length ≤ 100000 ∧ s.vs.length ≤ 100000 ∧ s.cs.length ≤ 100000) = true) : s.Wf := wf_of h1 h2 h3 (by simpa using h4)
def chV : Sl := layV (layV (layV (emptyV 4 8) 1 5 50) 2 9 90) 7 12 120
theorem chV_plain : ∃ V0 V1 V2 V3 : Sl, newSV 4 8 = (V0, 0) ∧ V0.Wf ∧ laySV V0 1 5 50 = (V1, 0) ∧ V1.Wf ∧ laySV V1 2 9 90 = (V2, 0) ∧ V2.Wf ∧ laySV V2 7 12 120 = (V3, 0) ∧ V3 = chV :=
  ⟨emptyV 4 8, layV (emptyV 4 8) 1 5 50, layV (layV (emptyV 4 8) 1 5 50) 2 9 90, chV, by decide +kernel, wfS (by decide +kernel) (by decide +kernel) (by decide +kernel) (by decide +kernel), by decide +kernel, wfS (by decide +kernel) (by decide +kernel) (by decide +kernel) (by decide +kernel), by decide +kernel, wfS (by decide +kernel) (by decide +kernel) (by decide +kernel) (by decide +kernel), by decide +kernel, rfl⟩
theorem chV_wf : chV.Wf := wfS (by decide +kernel) (by decide +kernel) (by decide +kernel) (by decide +kernel)
set_option maxRecDepth 100000 in
set_option maxHeartbeats 4000000 in
theorem chapter_any (w : World) : Calls Tryd.prog 28 #[] w fun e w' => ∃ h', e = .returned (sval chV h') ∧ SOwn w' w.heap.size w'.heap.size chV h' ∧ Below w.heap.size w w' := by
  obtain ⟨V0, V1, V2, V3, e0, wf0, e1, wf1, e2, wf2, e3, ez⟩ := chV_plain
  have HN := Lib.hid (fun w1 => New_any 4 8 w1 (by decide) (by decide))
  rw [e0] at HN
  have HL1 := Lib.hid (fun h1 w1 R => Lay_any V0 h1 1 5 50 w1 wf0 R)
  rw [e1] at HL1
  have HL2 := Lib.hid (fun h1 w1 R => Lay_any V1 h1 2 9 90 w1 wf1 R)
  rw [e2] at HL2
  have HL3 := Lib.hid (fun h1 w1 R => Lay_any V2 h1 7 12 120 w1 wf2 R)
  rw [e3] at HL3
  rw [← ez]
  clear e0 wf0 e1 wf1 e2 wf2 e3 ez
  go_enter Tryd.func28, Tryd.ntmps28
  have E0 := Lib.hid (((St.below' (allocS_below w noneS noneH))).and (St.bs (allocS_bs w noneS noneH)))
  go_wp2_with fail
  rw [show w.alloc (.cells #[.int .i64 0, .slice Option.none 0 0, .slice Option.none 0 0, .slice Option.none 0 0, .slice Option.none 0 0, .int .u64 0] 27) = allocS w noneS noneH from rfl]
  generalize hw0 : allocS w noneS noneH = w0 at *
  have hz0 : w0.heap.size = w.heap.size + 1 := by rw [← hw0, allocS_size]
  clear hw0
  refine (HN.out _).mono ?_
  rintro e w1 ⟨hd0, rfl, ho, hb⟩
  have E1 := Lib.hid ((E0.out.next hb).and (St.own ho))
  clear hb
  clear ho
  go_wp2_with fail
  rw [allocS_fold]
  have E2 := Lib.hid ((E1.out.next (allocS_below w1 V0 hd0)).and (St.bs (allocS_bs w1 V0 hd0)))
  generalize allocS w1 V0 hd0 = w2 at *
  refine (HL1.out hd0 _ (SOwn.rd E2.out.now.2.1)).mono ?_
  rintro e w3 ⟨hd1, rfl, ho, hb⟩
  have E3 := Lib.hid ((E2.out.next hb).and (St.own ho))
  clear hb
  clear ho
  obtain ⟨-, ⟨⟨bs_0, bs_1, bs_2, bs_3, bs_4, bs_5, -⟩, bs_l⟩, -, -, -⟩ := E3.out.now
  have fb := E3.out.now.2.1.box.f
  have f0 := fb 0; have f1 := fb 1; have f2 := fb 2; have f3 := fb 3; have f4 := fb 4; have f5 := fb 5
  clear fb
  go_wp2_with fail
  rw [stS_fold]
  clear bs_0 bs_1 bs_2 bs_3 bs_4 bs_5 bs_l
  clear f0 f1 f2 f3 f4 f5
  have hz1 : w.heap.size < w1.heap.size := E1.out.now.2.1.lt
  have hz2 : w1.heap.size < w2.heap.size := E2.out.now.1.lt
  have hst : Below w1.heap.size w3 (stS w3 w1.heap.size V1 hd1) := stS_below (Below.refl _ _) (Nat.le_refl _)
  have hkk : Keeps w1.heap.size w3.heap.size w3.heap.size w3 _ := ⟨hst, fun i h1 h2 => by omega⟩
  have E4 := Lib.hid (((((St.below' (stS_below (p := w1.heap.size) (s := V1) (h := hd1) E3.out.now.2.2.2.2 (Nat.le_of_lt hz1)))).and (St.own (stS_own (s := V1) (h := hd1) E3.out.now.1 hz2))).and (St.bs (stS_bs (s := V1) (h := hd1) E3.out.now.2.1))).and (St.bs (keeps_bs hkk E3.out.now.2.2.2.1 (.inl hz1))))
  clear hst hkk
  generalize stS w3 w1.heap.size V1 hd1 = w4 at *
  clear hz1 hz2
  refine (HL2.out hd1 _ (SOwn.rd E4.out.now.2.2.1)).mono ?_
  rintro e w5 ⟨hd2, rfl, ho, hb⟩
  have E5 := Lib.hid ((E4.out.next hb).and (St.own ho))
  clear hb
  clear ho
  obtain ⟨-, -, ⟨⟨bs_0, bs_1, bs_2, bs_3, bs_4, bs_5, -⟩, bs_l⟩, -, -⟩ := E5.out.now
  have fb := E5.out.now.2.2.1.box.f
  have f0 := fb 0; have f1 := fb 1; have f2 := fb 2; have f3 := fb 3; have f4 := fb 4; have f5 := fb 5
  clear fb
  go_wp2_with fail
  rw [stS_fold]
  clear bs_0 bs_1 bs_2 bs_3 bs_4 bs_5 bs_l
  clear f0 f1 f2 f3 f4 f5
  have hz1 : w.heap.size < w1.heap.size := E1.out.now.2.1.lt
  have hz2 : w1.heap.size < w4.heap.size := E4.out.now.2.1.lt
  have hst : Below w1.heap.size w5 (stS w5 w1.heap.size V2 hd2) := stS_below (Below.refl _ _) (Nat.le_refl _)
  have hkk : Keeps w1.heap.size w5.heap.size w5.heap.size w5 _ := ⟨hst, fun i h1 h2 => by omega⟩
  have E6 := Lib.hid (((((St.below' (stS_below (p := w1.heap.size) (s := V2) (h := hd2) E5.out.now.2.2.2.2 (Nat.le_of_lt hz1)))).and (St.own (stS_own (s := V2) (h := hd2) E5.out.now.1 hz2))).and (St.bs (stS_bs (s := V2) (h := hd2) E5.out.now.2.2.1))).and (St.bs (keeps_bs hkk E5.out.now.2.1 (.inl hz1))))
  clear hst hkk
  generalize stS w5 w1.heap.size V2 hd2 = w6 at *
  clear hz1 hz2
  refine (HL3.out hd2 _ (SOwn.rd E6.out.now.2.2.1)).mono ?_
  rintro e w7 ⟨hd3, rfl, ho, hb⟩
  have E7 := Lib.hid ((E6.out.next hb).and (St.own ho))
  clear hb
  clear ho
  obtain ⟨-, -, ⟨⟨bs_0, bs_1, bs_2, bs_3, bs_4, bs_5, -⟩, bs_l⟩, -, -⟩ := E7.out.now
  have fb := E7.out.now.2.2.1.box.f
  have f0 := fb 0; have f1 := fb 1; have f2 := fb 2; have f3 := fb 3; have f4 := fb 4; have f5 := fb 5
  clear fb
  have hz1 : w.heap.size < w1.heap.size := E1.out.now.2.1.lt
  have hz2 : w1.heap.size < w6.heap.size := E6.out.now.2.1.lt
  have hne : w1.heap.size ≠ w.heap.size := by omega
  have d0 := E7.out.now.2.1.box.c0; have d1 := E7.out.now.2.1.box.c1; have d2 := E7.out.now.2.1.box.c2; have d3 := E7.out.now.2.1.box.c3; have d4 := E7.out.now.2.1.box.c4; have d5 := E7.out.now.2.1.box.c5
  have g := E7.out.now.2.1.box.f
  have g0 := g 0; have g1 := g 1; have g2 := g 2; have g3 := g 3; have g4 := g 4; have g5 := g 5
  clear g
  go_wp2
  rw [stS_fold, stS_fold]
  have hst : Below w1.heap.size w7 (stS w7 w1.heap.size V3 hd3) := stS_below (Below.refl _ _) (Nat.le_refl _)
  have hkk : Keeps w1.heap.size w7.heap.size w7.heap.size w7 _ := ⟨hst, fun i h1 h2 => by omega⟩
  have D4 := stS_box (s := V3) (h := hd3) (keeps_bs hkk E7.out.now.2.1 (.inl hz1)).box
  have q0 := D4.c0; have q1 := D4.c1; have q2 := D4.c2; have q3 := D4.c3; have q4 := D4.c4; have q5 := D4.c5
  refine bodyPost_ret (v := sval V3 hd3) (by simp [results, Tryd.results28, sval, go_sem, q0, q1, q2, q3, q4, q5]) rfl ⟨hd3, rfl, ?_, ?_⟩
  · exact (stS_own (stS_own E7.out.now.1 hz2) (by omega)).mono (by omega) (by rw [stS_size, stS_size]; exact Nat.le_refl _)
  · exact stS_below (stS_below E7.out.now.2.2.2.2 (Nat.le_of_lt hz1)) (Nat.le_refl _)

theorem is_yes (k m : Int) (w : World) (hm : IntKind.i64.wrap (10 * k) = m) : Calls Tryd.prog 29 #[.agg #[.int .i64 k, .int .i64 m], .int .i64 0, .int .i64 k] w fun r w' => r = .returned (.bool true) ∧ Below w.heap.size w w' := by
  have hgd : Tryd.prog.eqGuardType Tryd.prog.depth 38 = false := by kernel_rfl
  have hq : ∀ w : World, (Op.equalIn 10000 38 (.agg #[.int .i64 k, .int .i64 m]) (.agg #[.int .i64 k, .int .i64 m])).run Tryd.prog w = .ok true w := fun w => by rw [run_equal_pair]; simp
  go_enter Tryd.func29, Tryd.ntmps29
  go_wp2
  go_ret
  exact ⟨rfl, allocP_below w k m⟩
theorem alive_plain : floorV chV 9 = ((9, 90), 0) ∧ floorV chV 11 = ((9, 90), 0) ∧ ceilV chV 10 = ((12, 120), 0) ∧ selV chV 1 = ((9, 90), 0) ∧ scanV chV 6 12 1 = ([(9, 90)], 0) := ⟨by decide +kernel, by decide +kernel, by decide +kernel, by decide +kernel, by decide +kernel⟩
set_option maxRecDepth 100000 in
set_option maxHeartbeats 8000000 in
theorem alive_any (w : World) (hT : Tab w) : Calls Tryd.prog 25 #[] w fun e w' => e = .returned (.bool true) ∧ Below w.heap.size w w' := by
  obtain ⟨e1, e2, e3, e4, e5⟩ := alive_plain
  have HCH := Lib.hid (fun w1 => chapter_any w1)
  have HI9 := Lib.hid (fun w1 => is_yes 9 90 w1 (by decide))
  have HI12 := Lib.hid (fun w1 => is_yes 12 120 w1 (by decide))
  have H1 := Lib.hid (fun h1 w1 (T : Tab w1) (R : SRd w1 chV h1) => Floor_any chV h1 9 w1 T chV_wf R)
  rw [e1] at H1
  unfold AnsP1 at H1
  dsimp only at H1
  have H2 := Lib.hid (fun h1 w1 (T : Tab w1) (R : SRd w1 chV h1) => Floor_any chV h1 11 w1 T chV_wf R)
  rw [e2] at H2
  unfold AnsP1 at H2
  dsimp only at H2
  have H3 := Lib.hid (fun h1 w1 (T : Tab w1) (R : SRd w1 chV h1) => Ceiling_any chV h1 10 w1 T chV_wf R)
  rw [e3] at H3
  unfold AnsP1 at H3
  dsimp only at H3
  have H4 := Lib.hid (fun h1 w1 (T : Tab w1) (R : SRd w1 chV h1) => Select_any chV h1 1 (by decide) w1 T chV_wf R)
  rw [e4] at H4
  unfold AnsP1 at H4
  dsimp only at H4
  have H5 := Lib.hid (fun h1 w1 (T : Tab w1) (R : SRd w1 chV h1) => Scan_any chV h1 6 12 1 w1 T chV_wf R)
  rw [e5] at H5
  unfold AnsPr at H5
  dsimp only at H5
  generalize chV = C at *
  clear e1 e2 e3 e4 e5
  have E0 := Lib.hid (((St.below w)).and (St.tab hT))
  clear hT
  go_enter Tryd.func25, Tryd.ntmps25
  go_wp2_with fail
  refine (HCH.out _).mono ?_
  rintro e w1 ⟨hc1, rfl, ho, hb⟩
  have E1 := Lib.hid ((E0.out.next hb).and (St.own ho))
  clear hb
  clear ho
  go_wp2_with fail
  refine (H1.out hc1 _ E1.out.now.2.1 (SOwn.rd E1.out.now.1)).mono ?_
  rintro e w2 ⟨rfl, hb⟩
  have E2 := Lib.hid (E1.out.next hb)
  clear hb
  go_wp2_with fail
  rw [allocP_fold]
  have E3 := Lib.hid ((E2.out.next (allocP_below w2 9 90)).and (St.bp (allocP_bp w2 9 90)))
  generalize allocP w2 9 90 = w3 at *
  refine (HCH.out _).mono ?_
  rintro e w4 ⟨hc2, rfl, ho, hb⟩
  have E4 := Lib.hid ((E3.out.next hb).and (St.own ho))
  clear hb
  clear ho
  go_wp2_with fail
  refine (H2.out hc2 _ E4.out.now.2.2.2.1 (SOwn.rd E4.out.now.1)).mono ?_
  rintro e w5 ⟨rfl, hb⟩
  have E5 := Lib.hid (E4.out.next hb)
  clear hb
  go_wp2_with fail
  rw [allocP_fold]
  have E6 := Lib.hid ((E5.out.next (allocP_below w5 9 90)).and (St.bp (allocP_bp w5 9 90)))
  generalize allocP w5 9 90 = w6 at *
  refine (HCH.out _).mono ?_
  rintro e w7 ⟨hc3, rfl, ho, hb⟩
  have E7 := Lib.hid ((E6.out.next hb).and (St.own ho))
  clear hb
  clear ho
  go_wp2_with fail
  refine (H3.out hc3 _ E7.out.now.2.2.2.2.2.1 (SOwn.rd E7.out.now.1)).mono ?_
  rintro e w8 ⟨rfl, hb⟩
  have E8 := Lib.hid (E7.out.next hb)
  clear hb
  go_wp2_with fail
  rw [allocP_fold]
  have E9 := Lib.hid ((E8.out.next (allocP_below w8 12 120)).and (St.bp (allocP_bp w8 12 120)))
  generalize allocP w8 12 120 = w9 at *
  refine (HCH.out _).mono ?_
  rintro e w10 ⟨hc4, rfl, ho, hb⟩
  have E10 := Lib.hid ((E9.out.next hb).and (St.own ho))
  clear hb
  clear ho
  go_wp2_with fail
  refine (H4.out hc4 _ E10.out.now.2.2.2.2.2.2.2.1 (SOwn.rd E10.out.now.1)).mono ?_
  rintro e w11 ⟨rfl, hb⟩
  have E11 := Lib.hid (E10.out.next hb)
  clear hb
  go_wp2_with fail
  rw [allocP_fold]
  have E12 := Lib.hid ((E11.out.next (allocP_below w11 9 90)).and (St.bp (allocP_bp w11 9 90)))
  generalize allocP w11 9 90 = w12 at *
  refine (HCH.out _).mono ?_
  rintro e w13 ⟨hc5, rfl, ho, hb⟩
  have E13 := Lib.hid ((E12.out.next hb).and (St.own ho))
  clear hb
  clear ho
  go_wp2_with fail
  refine (H5.out hc5 _ E13.out.now.2.2.2.2.2.2.2.2.2.1 (SOwn.rd E13.out.now.1)).mono ?_
  rintro e w14 ⟨v, rfl, ho, hb⟩
  obtain ⟨al5, cl5, rfl, -, hr2, hcl, -⟩ := owns2_arg ho
  clear ho hcl
  rw [show ([(9, 90)] : List (Int × Int)).length = 1 from rfl]
  have E14 := Lib.hid ((E13.out.next hb).and (St.rd2 hr2))
  clear hb
  clear hr2
  clear HCH H1 H2 H3 H4 H5
  obtain ⟨-, -, -, -, -, -, -, -, ⟨⟨p1_0, p1_1, -⟩, p1_l⟩, -, -, -⟩ := E14.out.now
  go_wp2_with fail
  clear p1_0 p1_1 p1_l
  refine (HI9.out _).mono ?_
  rintro e w15 ⟨rfl, hb⟩
  have E15 := Lib.hid (E14.out.next hb)
  clear hb
  obtain ⟨-, -, -, -, -, -, ⟨⟨p2_0, p2_1, -⟩, p2_l⟩, -, -, -, -, -⟩ := E15.out.now
  go_wp2_with fail
  clear p2_0 p2_1 p2_l
  refine (HI9.out _).mono ?_
  rintro e w16 ⟨rfl, hb⟩
  have E16 := Lib.hid (E15.out.next hb)
  clear hb
  obtain ⟨-, -, -, -, ⟨⟨p3_0, p3_1, -⟩, p3_l⟩, -, -, -, -, -, -, -⟩ := E16.out.now
  go_wp2_with fail
  clear p3_0 p3_1 p3_l
  refine (HI12.out _).mono ?_
  rintro e w17 ⟨rfl, hb⟩
  have E17 := Lib.hid (E16.out.next hb)
  clear hb
  obtain ⟨-, -, ⟨⟨p4_0, p4_1, -⟩, p4_l⟩, -, -, -, -, -, -, -, -, -⟩ := E17.out.now
  go_wp2_with fail
  clear p4_0 p4_1 p4_l
  refine (HI9.out _).mono ?_
  rintro e w18 ⟨rfl, hb⟩
  have E18 := Lib.hid (E17.out.next hb)
  clear hb
  obtain ⟨bl, ol, rfl, ca, -⟩ := Rd2.at E18.out.now.1 (Below.refl _ _) (Nat.le_refl _) (show 0 < ([(9, 90)] : List (Int × Int)).length by decide)
  replace ca : w18.cell? ⟨bl, ol, Option.none⟩ = some (.int .i64 9) := by simpa using ca
  go_wp2_with fail
  go_ret
  exact ⟨by simp, E18.out.now.2.2.2.2.2.2.2.2.2.2.2⟩
end Go.Proofs.YthkhideonceibaaDoor.Span
