/- Package seek, in plain Lean: keys that rise, how many are below one, and where they stand. Contracts of package seek: Check. What the functions of package conf compute, as plain functions on integers: no program in sight. Contracts of the functions of package conf, and of the document's answer for it. -/
import Derived.Test.YtiemfklonhlnnaaMak
import Derived.Lib.QuietBelow
import Derived.StillTailTactics
set_option linter.unusedSimpArgs false
set_option linter.unusedVariables false
namespace Go.Proofs.Ytiemfklonhlnnaa.Seek
open Go.RowKit Go.Shelf Go.Sort Go.Proofs.Ytiemfklonhlnnaa Go.Proofs.Ytiemfklonhlnnaa.Occ Go.Proofs.Ytiemfklonhlnnaa.Slo

/-- Do pairs' keys rise? -/
def riseB (l : List (Int × Int)) : Bool := (List.range l.length).all fun i => decide (i = 0) || decide ((l.getD (i - 1) (0, 0)).1 < (l.getD i (0, 0)).1)
theorem riseB_iff {l : List (Int × Int)} : riseB l = true ↔ ∀ i, i + 1 < l.length → (l.getD i (0, 0)).1 < (l.getD (i + 1) (0, 0)).1 := by
  unfold riseB
  rw [List.all_eq_true]
  constructor
  · intro h i hi
    have := h (i + 1) (List.mem_range.2 hi)
    simpa using this
  · intro h i hi
    have hi := List.mem_range.1 hi
    cases i with
    | zero => simp
    | succ i =>
      have := h i hi
      rw [show i + 1 - 1 = i from rfl, decide_eq_true this, Bool.or_true]
theorem riseB_no {l : List (Int × Int)} {i : Nat} (hi : i + 1 < l.length) (h : ¬ (l.getD i (0, 0)).1 < (l.getD (i + 1) (0, 0)).1) : riseB l = false := by
  rw [Bool.eq_false_iff]
  exact fun g => h (riseB_iff.1 g i hi)
theorem rise_lt {l : List (Int × Int)} (h : riseB l = true) : ∀ j i, i < j → j < l.length → (l.getD i (0, 0)).1 < (l.getD j (0, 0)).1 := by
  intro j
  induction j with
  | zero => intro i hi; omega
  | succ j ih =>
    intro i hi hj
    have h1 := riseB_iff.1 h j hj
    rcases Nat.lt_or_ge i j with h2 | h2
    · have := ih i h2 (by omega); omega
    · obtain rfl : i = j := by omega
      exact h1
def allP (s : Sl) : List (Int × Int) := prs s 0 s.ks.length
def slotsL (s : Sl) : List Nat := occs s.ws 0 s.ks.length
theorem allP_eq (s : Sl) : allP s = (slotsL s).map (pairAt s) := rfl
theorem allP_length (s : Sl) : (allP s).length = (slotsL s).length := by rw [allP_eq, List.length_map]
theorem allP_getD (s : Sl) {i : Nat} (h : i < (slotsL s).length) : (allP s).getD i (0, 0) = pairAt s ((slotsL s).getD i 0) := by
  rw [allP_eq]
  simp [List.getD_eq_getElem?_getD, h]
def chkK (s : Sl) : Int := if okS s = true then (if riseB (allP s) = true then 0 else 130) else 8
theorem chkK_ok {s : Sl} (h : chkK s = 0) : okS s = true ∧ riseB (allP s) = true := by
  unfold chkK at h
  split at h
  · rename_i h1
    split at h
    · exact ⟨h1, by assumption⟩
    · simp at h
  · simp at h
/-- How many keys are below one. -/
def bel (l : List (Int × Int)) (key : Int) : Nat := l.countP (fun p => decide (p.1 < key))
theorem bel_le (l : List (Int × Int)) (key : Int) : bel l key ≤ l.length := List.countP_le_length
theorem bel_iff : ∀ {l : List (Int × Int)} (_ : riseB l = true) (key : Int) {i : Nat}, i < l.length → ((l.getD i (0, 0)).1 < key ↔ i < bel l key)
  | [], _, _, _, h => by simp at h
  | p :: l, hr, key, i, hi => by
    have hr' : riseB l = true := riseB_iff.2 fun j hj => by
      have := riseB_iff.1 hr (j + 1) (by simp; omega)
      simpa using this
    have ih := fun {j : Nat} (hj : j < l.length) => bel_iff hr' key hj
    unfold bel
    rw [List.countP_cons]
    by_cases hp : p.1 < key
    · simp only [hp, decide_true, if_true]
      cases i with
      | zero => simp [hp]
      | succ i =>
        have := ih (j := i) (by simp at hi; omega)
        unfold bel at this
        simp only [List.getD_cons_succ]
        omega
    · have h0 : l.countP (fun p => decide (p.1 < key)) = 0 := by
        rw [List.countP_eq_zero]
        intro q hq
        obtain ⟨j, hj, rfl⟩ := List.getElem_of_mem hq
        have := rise_lt hr (j + 1) 0 (by omega) (by simp; omega)
        simp [List.getD_eq_getElem?_getD, hj] at this
        simp; omega
      rw [h0]
      simp only [hp, decide_false]
      have : ¬ ((p :: l).getD i (0, 0)).1 < key := by
        cases i with
        | zero => simpa using hp
        | succ i =>
          have := rise_lt hr (i + 1) 0 (by omega) hi
          simp only [List.getD_cons_zero] at this
          omega
      exact ⟨fun h => absurd h this, fun h => by simp at h⟩
/-- Occupied slots, in their order. -/
theorem slots_sorted (s : Sl) : (slotsL s).Pairwise (· < ·) := by
  unfold slotsL occs
  exact List.Pairwise.filter _ List.pairwise_lt_range'
theorem slots_lt (s : Sl) {i j : Nat} (h : i < j) (hj : j < (slotsL s).length) : (slotsL s).getD i 0 < (slotsL s).getD j 0 := by
  have := List.pairwise_iff_getElem.1 (slots_sorted s) i j (by omega) hj h
  simpa [List.getD_eq_getElem?_getD, hj, show i < (slotsL s).length by omega] using this
theorem slots_mem (s : Sl) {i : Nat} (h : i < (slotsL s).length) : (slotsL s).getD i 0 < s.ks.length ∧ occB s.ws ((slotsL s).getD i 0) = true := by
  have hm : (slotsL s).getD i 0 ∈ slotsL s := by
    rw [show (slotsL s).getD i 0 = (slotsL s)[i] by simp [List.getD_eq_getElem?_getD, h]]
    exact List.getElem_mem _
  have := occs_mem.1 hm
  exact ⟨by omega, this.2.2⟩
theorem slots_at (s : Sl) {x : Nat} (h1 : x < s.ks.length) (h2 : occB s.ws x = true) : ∃ i, i < (slotsL s).length ∧ (slotsL s).getD i 0 = x := by
  have hm : x ∈ slotsL s := occs_mem.2 ⟨by omega, by omega, h2⟩
  obtain ⟨i, hi, e⟩ := List.getElem_of_mem hm
  exact ⟨i, hi, by simp [List.getD_eq_getElem?_getD, hi, e]⟩
/-- The first slot whose key is not below one; behind all: none. -/
def fromN (s : Sl) (key : Int) : Nat := if bel (allP s) key < (slotsL s).length then (slotsL s).getD (bel (allP s) key) 0 else s.ks.length
theorem from_le (s : Sl) (key : Int) : fromN s key ≤ s.ks.length := by
  unfold fromN
  split
  · have := (slots_mem s (by assumption)).1; omega
  · exact Nat.le_refl _
theorem from_occ {s : Sl} {key : Int} (h : fromN s key < s.ks.length) : bel (allP s) key < (slotsL s).length ∧ fromN s key = (slotsL s).getD (bel (allP s) key) 0 ∧ occB s.ws (fromN s key) = true := by
  unfold fromN at *
  split
  · rename_i h1
    exact ⟨h1, rfl, (slots_mem s h1).2⟩
  · rename_i h1; rw [if_neg h1] at h; omega
theorem from_none {s : Sl} {key : Int} (h : ¬ fromN s key < s.ks.length) : fromN s key = s.ks.length ∧ ¬ bel (allP s) key < (slotsL s).length := by
  have := from_le s key
  refine ⟨by omega, fun h1 => ?_⟩
  have e : fromN s key = (slotsL s).getD (bel (allP s) key) 0 := by unfold fromN; rw [if_pos h1]
  have := (slots_mem s h1).1
  omega
theorem from_iff {s : Sl} (hr : riseB (allP s) = true) (key : Int) {x : Nat} (h1 : x < s.ks.length) (h2 : occB s.ws x = true) : s.ks.getD x 0 < key ↔ x < fromN s key := by
  obtain ⟨i, hi, rfl⟩ := slots_at s h1 h2
  have h := bel_iff hr key (i := i) (by rw [allP_length]; exact hi)
  rw [allP_getD s hi] at h
  rw [show s.ks.getD ((slotsL s).getD i 0) 0 = (pairAt s ((slotsL s).getD i 0)).1 from rfl, h]
  unfold fromN
  split
  · rename_i hb
    constructor
    · intro hlt; exact slots_lt s hlt hb
    · intro hlt
      rcases Nat.lt_or_ge i (bel (allP s) key) with g | g
      · exact g
      · rcases Nat.lt_or_ge (bel (allP s) key) i with g2 | g2
        · have := slots_lt s g2 hi; omega
        · obtain e : i = bel (allP s) key := by omega
          rw [← e] at hlt; omega
  · constructor
    · intro _; exact h1
    · intro _; omega
/-- The slots ahead are those of the keys below. -/
theorem occs_from {s : Sl} (key : Int) : occs s.ws 0 (fromN s key) = (slotsL s).take (bel (allP s) key) := by
  refine occs_eq ?_ fun x => ?_
  · exact (slots_sorted s).sublist (List.take_sublist _ _)
  · have hb : bel (allP s) key ≤ (slotsL s).length := by have := bel_le (allP s) key; rw [allP_length] at this; exact this
    constructor
    · intro hm
      obtain ⟨i, hi, e⟩ := List.getElem_of_mem hm
      rw [List.length_take] at hi
      have hi2 : i < (slotsL s).length := by omega
      rw [List.getElem_take] at e
      have e2 : (slotsL s).getD i 0 = x := by simp [List.getD_eq_getElem?_getD, hi2, e]
      have := slots_mem s hi2
      rw [e2] at this
      refine ⟨⟨by omega, ?_⟩, this.2⟩
      unfold fromN
      split
      · rename_i h1
        have := slots_lt s (show i < bel (allP s) key by omega) h1
        omega
      · omega
    · rintro ⟨⟨_, hx⟩, ho⟩
      have hle := from_le s key
      obtain ⟨i, hi, e⟩ := slots_at s (show x < s.ks.length by omega) ho
      have hib : i < bel (allP s) key := by
        unfold fromN at hx
        split at hx
        · rename_i h1
          rcases Nat.lt_or_ge i (bel (allP s) key) with g | g
          · exact g
          · rcases Nat.lt_or_ge (bel (allP s) key) i with g2 | g2
            · have := slots_lt s g2 hi; omega
            · obtain e3 : i = bel (allP s) key := by omega
              rw [← e3] at hx; omega
        · omega
      rw [← e]
      rw [show (slotsL s).getD i 0 = ((slotsL s).take (bel (allP s) key))[i]'(by rw [List.length_take]; omega) by rw [List.getElem_take]; simp [List.getD_eq_getElem?_getD, hi]]
      exact List.getElem_mem _
def rankV (s : Sl) (key : Int) : Int × Int := if chkK s = 0 then ((bel (allP s) key : Int), 0) else (0, chkK s)
def nxtV (s : Sl) (key : Int) : Int × Int := if chkK s = 0 then (if bel (allP s) key < (slotsL s).length then (((slotsL s).getD (bel (allP s) key) 0 : Nat), 0) else (0, 6)) else (0, chkK s)
def findV (s : Sl) (key : Int) : Int × Int := if (nxtV s key).2 = 0 then (if s.ks.getD (nxtV s key).1.toNat 0 = key then nxtV s key else (0, 6)) else (0, (nxtV s key).2)
def lasV (s : Sl) (key : Int) : Int × Int := if chkK s = 0 then (if bel (allP s) key = 0 then (0, 6) else (((slotsL s).getD (bel (allP s) key - 1) 0 : Nat), 0)) else (0, chkK s)
theorem chk_slots {s : Sl} (h : okS s = true) : chkV s.ws (s.ks.length : Int) = 0 := by
  obtain ⟨g, q, o⟩ := okS_iff.1 h
  have := chkV_in (ws := s.ws) o.n1
  rw [this, if_pos (mayB_iff.2 ⟨o.w, o.z⟩)]
theorem cnt_from {s : Sl} {key : Int} (h : chkK s = 0) : cntV s.ws s.ks.length 0 (fromN s key) = rankV s key := by
  have hc := chk_slots (chkK_ok h).1
  have hle := from_le s key
  unfold cntV rankV
  rw [if_pos h, if_pos (ask_ok hc (inB_iff.2 ⟨by omega, by omega, by omega⟩))]
  simp only [Int.toNat_zero, Int.sub_zero, Int.toNat_natCast]
  rw [occs_from, List.length_take]
  have := bel_le (allP s) key
  rw [allP_length] at this
  rw [Nat.min_eq_left this]
theorem nxt_from {s : Sl} {key : Int} (h : chkK s = 0) : nxtV s key = if fromN s key < s.ks.length then ((fromN s key : Int), 0) else (0, 6) := by
  unfold nxtV
  rw [if_pos h]
  by_cases h1 : fromN s key < s.ks.length
  · obtain ⟨h2, h3, _⟩ := from_occ h1
    rw [if_pos h1, if_pos h2, h3]
  · rw [if_neg h1, if_neg (from_none h1).2]
theorem last_from {s : Sl} {key : Int} (h : chkK s = 0) : lastV s.ws s.ks.length (fromN s key) = lasV s key := by
  have hc := chk_slots (chkK_ok h).1
  have hle := from_le s key
  have hb := bel_le (allP s) key
  rw [allP_length] at hb
  unfold lastV lasV
  rw [if_pos h, if_pos (ask_ok hc (upB_iff.2 ⟨by omega, by omega⟩))]
  simp only [Int.toNat_natCast]
  rw [occs_from]
  unfold endV
  rw [List.length_take, Nat.min_eq_left hb]
  by_cases h0 : bel (allP s) key = 0
  · rw [if_pos h0, if_pos h0]
  · rw [if_neg h0, if_neg h0]
    have : ((slotsL s).take (bel (allP s) key)).getD (bel (allP s) key - 1) 0 = (slotsL s).getD (bel (allP s) key - 1) 0 := by
      simp only [List.getD_eq_getElem?_getD]
      rw [List.getElem?_take_of_lt (by omega)]
    rw [this]
/-- What the next occupied slot is. -/
theorem next_cases {s : Sl} (h : okS s = true) {p : Nat} (hp : p ≤ s.ks.length) :
    (nextV s.ws s.ks.length p = (0, 6) ∧ ∀ i, p ≤ i → i < s.ks.length → occB s.ws i = false) ∨
    ∃ a : Nat, nextV s.ws s.ks.length p = ((a : Int), 0) ∧ p ≤ a ∧ a < s.ks.length ∧ occB s.ws a = true ∧ ∀ i, p ≤ i → i < a → occB s.ws i = false := by
  have hc := chk_slots h
  have e : nextV s.ws s.ks.length p = firstV (occs s.ws p (s.ks.length - p)) := by
    unfold nextV
    rw [if_pos (ask_ok hc (upB_iff.2 ⟨by omega, by omega⟩)), Int.toNat_natCast, show ((s.ks.length : Int) - (p : Int)).toNat = s.ks.length - p by omega]
  rw [e]
  cases hl : occs s.ws p (s.ks.length - p) with
  | nil =>
    left
    refine ⟨rfl, fun i h1 h2 => ?_⟩
    cases ho : occB s.ws i
    · rfl
    · have : i ∈ occs s.ws p (s.ks.length - p) := occs_mem.2 ⟨h1, by omega, ho⟩
      rw [hl] at this; cases this
  | cons a l =>
    right
    have ha : a ∈ occs s.ws p (s.ks.length - p) := by rw [hl]; exact List.mem_cons_self
    obtain ⟨h1, h2, h3⟩ := occs_mem.1 ha
    refine ⟨a, by unfold firstV; simp, h1, by omega, h3, fun i h4 h5 => ?_⟩
    cases ho : occB s.ws i
    · rfl
    · have hm : i ∈ occs s.ws p (s.ks.length - p) := occs_mem.2 ⟨h4, by omega, ho⟩
      rw [hl] at hm
      have hs : (occs s.ws p (s.ks.length - p)).Pairwise (· < ·) := by unfold occs; exact List.Pairwise.filter _ List.pairwise_lt_range'
      rw [hl] at hs
      rcases List.mem_cons.1 hm with e | m
      · omega
      · have := (List.pairwise_cons.1 hs).1 i m; omega
/-- What is told of a slot between. -/
structure Cut (s : Sl) (r from_ to_ : Nat) : Prop where
  le : from_ ≤ to_
  top : to_ ≤ s.ks.length
  lo : ∀ i, i < from_ → i < s.ks.length → occB s.ws i = true → i < r
  hi : ∀ i, to_ ≤ i → i < s.ks.length → occB s.ws i = true → r ≤ i
theorem Cut.start (s : Sl) (r : Nat) : Cut s r 0 s.ks.length := ⟨Nat.zero_le _, Nat.le_refl _, fun i h => by omega, fun i h1 h2 => by omega⟩
theorem Cut.none {s : Sl} {r f t m : Nat} (c : Cut s r f t) (h1 : f ≤ m) (h2 : m ≤ t) (h : ∀ i, m ≤ i → i < s.ks.length → occB s.ws i = false) : Cut s r f m :=
  ⟨h1, Nat.le_trans h2 c.top, c.lo, fun i a b o => by rw [h i a b] at o; cases o⟩
theorem Cut.down {s : Sl} {r f t m a : Nat} (c : Cut s r f t) (h1 : f ≤ m) (h2 : m ≤ t) (h : ∀ i, m ≤ i → i < a → occB s.ws i = false) (ha : t ≤ a ∨ r ≤ a) : Cut s r f m :=
  ⟨h1, Nat.le_trans h2 c.top, c.lo, fun i x y o => by
    rcases Nat.lt_or_ge i a with g | g
    · rw [h i x g] at o; cases o
    · rcases ha with h | h
      · exact c.hi i (by omega) y o
      · omega⟩
theorem Cut.up {s : Sl} {r f t a : Nat} (c : Cut s r f t) (h1 : a < t) (h2 : a < r) : Cut s r (a + 1) t :=
  ⟨h1, c.top, fun i x y o => by omega, c.hi⟩
theorem Cut.last {s : Sl} {r f : Nat} (c : Cut s r f f) (hr : r ≤ s.ks.length) (ho : r < s.ks.length → occB s.ws r = true) (hok : okS s = true) :
    (nextV s.ws s.ks.length f = (0, 6) ∧ r = s.ks.length) ∨ (nextV s.ws s.ks.length f = ((r : Int), 0)) := by
  have hge : f ≤ r ∨ r = s.ks.length := by
    rcases Nat.lt_or_ge r s.ks.length with g | g
    · left
      rcases Nat.lt_or_ge r f with g2 | g2
      · have := c.lo r g2 g (ho g); omega
      · exact g2
    · right; omega
  have hge : f ≤ r := by
    have := c.top
    rcases hge with g | g
    · exact g
    · omega
  rcases next_cases hok c.top with ⟨e, h⟩ | ⟨a, e, h1, h2, h3, h4⟩
  · left
    refine ⟨e, ?_⟩
    rcases Nat.lt_or_ge r s.ks.length with g | g
    · have := h r hge g; rw [ho g] at this; cases this
    · omega
  · right
    have h5 := c.hi a h1 h2 h3
    have : r = a := by
      rcases Nat.lt_or_ge r a with g | g
      · have := h4 r hge g; rw [ho (by omega)] at this; cases this
      · omega
    rw [e, this]
end Go.Proofs.Ytiemfklonhlnnaa.Seek

namespace Go.Proofs.Ytiemfklonhlnnaa.Seek
open Go.RowKit Go.Shelf Go.Sort Go.Proofs.Ytiemfklonhlnnaa Go.Proofs.Ytiemfklonhlnnaa.Occ Go.Proofs.Ytiemfklonhlnnaa.Slo
attribute [local go_sem] sval Oper.semAt_some

theorem St.tab {W : World} (h : Tab W) : St Tab W := ⟨h, fun _ _ h hb => h.mono hb⟩
theorem allV_ok {s : Sl} (h : okS s = true) : prsV s 0 s.ks.length = (allP s, 0) := by
  unfold prsV
  have e : askS s (inB s.ks.length (0 : Int) (s.ks.length : Int)) = 0 := by
    rw [inB_iff.2 ⟨by omega, by omega, by omega⟩]; exact askS_in h
  rw [if_pos e]
  simp [allP]
theorem allV_no {s : Sl} (h : okS s = false) : prsV s 0 s.ks.length = ([], 8) := by
  have e : askS s (inB s.ks.length (0 : Int) (s.ks.length : Int)) = 8 := by unfold askS; rw [h]; rfl
  unfold prsV
  rw [e]
  rfl
theorem chkK_no {s : Sl} (h : okS s = false) : chkK s = 8 := by unfold chkK; rw [h]; rfl
theorem chkK_yes {s : Sl} (h : okS s = true) : chkK s = if riseB (allP s) = true then 0 else 130 := by unfold chkK; rw [if_pos h]
theorem all_small {s : Sl} (h : okS s = true) : (allP s).length ≤ 65536 := by
  obtain ⟨g, q, o⟩ := okS_iff.1 h
  have := o.n1
  have e := prs_length s 0 s.ks.length
  have := occs_length s.ws 0 s.ks.length
  show (prs s 0 s.ks.length).length ≤ _
  omega

set_option maxRecDepth 100000 in
set_option maxHeartbeats 4000000 in
theorem kCheck_any (s : Sl) (h : Hd) (w : World) (W : s.Wf) (R : SRd w s h) :
    Calls Try.prog 22 #[sval s h] w fun e w' => e = .returned (.int .i64 (chkK s)) ∧ Below w.heap.size w w' := by
  have HP := Lib.hid (fun w1 (R : SRd w1 s h) => sPairs_any s h 0 s.ks.length w1 W R)
  have HR := Lib.hid R
  clear R W
  have E0 := Lib.hid ((((St.below' (allocS_below w s h))).and (St.rd (HR.out.next (allocS_below w s h)))).and (St.bs (allocS_bs w s h)))
  cases hok : okS s
  case false =>
    rw [allV_no hok] at HP
    rw [chkK_no hok]
    clear hok
    go_enter Try.func22, Try.ntmps22
    go_wp2_with fail
    rw [allocS_fold]
    generalize allocS w s h = w0 at *
    refine (HP.out _ E0.out.now.2.1).mono ?_
    rintro e w1 ⟨v, rfl, ho, hb⟩
    obtain ⟨al, cl, rfl, -, hr2, hcl, -⟩ := owns2_arg ho
    clear ho
    have E1 := Lib.hid ((E0.out.next hb).and (St.rd2 hr2))
    clear hb
    go_wp2
    go_ret
    exact ⟨rfl, E1.out.now.2.2.2⟩
  case true =>
    rw [allV_ok hok] at HP
    have HV := Lib.hid (chkK_yes hok)
    have HL := Lib.hid (all_small hok)
    clear hok
    generalize allP s = L at *
    generalize chkK s = V at *
    go_enter Try.func22, Try.ntmps22
    go_wp2_with fail
    rw [allocS_fold]
    generalize allocS w s h = w0 at *
    refine (HP.out _ E0.out.now.2.1).mono ?_
    rintro e w1 ⟨v, rfl, ho, hb⟩
    obtain ⟨al, cl, rfl, -, hr2, hcl, -⟩ := owns2_arg ho
    clear ho
    have E1 := Lib.hid ((E0.out.next hb).and (St.rd2 hr2))
    clear hb
    clear HP
    go_wp2
    go_loopw [5, 6, 20] (fun _ _ i wr => ∃ k : Nat, k ≤ L.length ∧ i = .int .i64 k ∧ (∀ j, j + 1 < k → (L.getD j (0, 0)).1 < (L.getD (j + 1) (0, 0)).1) ∧ Below w1.heap.size w1 wr) (fun _ _ i _ => L.length - (intOf i).toNat)
    case atStart => exact ⟨0, Nat.zero_le _, rfl, fun j hj => by omega, Below.refl _ _⟩
    case round =>
      obtain ⟨k, hk, rfl, hall, hb⟩ := hrel
      have HA := Lib.hid hall
      have HB := Lib.hid hb
      have E2 := Lib.hid (E1.out.next hb)
      clear hall hb
      have hl := HL.out
      have EL := Lib.hid (E2.out.and (St.below' HB.out))
      have E3 := EL
      clear EL
      by_cases hlt : k < L.length
      · obtain ⟨bl, ol, rfl, ca, cb⟩ := Rd2.at E3.out.now.2.1 (Below.refl _ _) (Nat.le_refl _) hlt
        have HK : Hid (∀ j, j + 1 = k → (L.getD j (0, 0)).1 < (L.getD k (0, 0)).1 → ∀ j, j + 1 < k + 1 → (L.getD j (0, 0)).1 < (L.getD (j + 1) (0, 0)).1) := Lib.hid (fun j hj h i hi => by
          by_cases hik : i = j
          · rw [hik, hj]; exact h
          · exact HA.out i (by omega))
        have HN : Hid (∀ j, j + 1 = k → ¬ (L.getD j (0, 0)).1 < (L.getD k (0, 0)).1 → riseB L = false) := Lib.hid (fun j hj h => riseB_no (i := j) (by omega) (by rw [hj]; exact h))
        have HD : Hid (∀ j, j < L.length → ∀ W, Rd2 W (some (⟨bl, ol, Option.none⟩ : Addr)) L → ∃ b off, some (⟨bl, ol, Option.none⟩ : Addr) = some ⟨b, off, Option.none⟩ ∧ W.cell? ⟨b, off + j * 2, Option.none⟩ = some (.int .i64 (L.getD j (0, 0)).1) ∧ W.cell? ⟨b, off + j * 2 + 1, Option.none⟩ = some (.int .i64 (L.getD j (0, 0)).2)) := Lib.hid (fun j hj W R => Rd2.at R (Below.refl _ _) (Nat.le_refl _) hj)
        generalize hxk : L.getD k (0, 0) = xk at *
        obtain ⟨x1, x2⟩ := xk
        dsimp only at ca cb HK HN
        have HXK := Lib.hid hxk
        clear hxk
        go_wp2_with fail
        rw [allocP_fold]
        have E4 := Lib.hid ((E3.out.next (allocP_below wr x1 x2)).and (St.bp (allocP_bp wr x1 x2)))
        generalize allocP wr x1 x2 = w4 at *
        clear ca cb
        cases k with
        | zero =>
          have d0 : decide ((0 : Int) < 0) = false := by decide
          refine region_qb' w4 w4.heap.size (Below.refl _ _) mixed' (by kernel_rfl) fun w5 hB hz => ?_
          have E5 := Lib.hid (E4.out.next hB)
          clear hB hz
          have EC := Lib.hid (fun d os => E5.out.next (below_regrown w5 d os))
          repeat (go_big_quiet_step (fail))
          refine wpQuiet_nil ?_
          rintro _ ⟨⟨dq, osq⟩, rfl⟩
          have E6 := Lib.hid (EC.out dq osq)
          generalize grow (redrawn w5 dq) osq = w6 at *
          clear EC 
          go_wp2
          go_roundw
          case rel => exact ⟨1, by omega, by go_num, fun j hj => by omega, E6.out.now.2.1⟩
          case measure => simp [intOf]; omega
        | succ k =>
          have hk0 : k < L.length := by omega
          have HD0 := Lib.hid (fun W R => HD.out k hk0 W R)
          have HK0 := Lib.hid (HK.out k rfl)
          have HN0 := Lib.hid (HN.out k rfl)
          clear HD HK HN
          generalize L.getD k (0, 0) = yk at *
          obtain ⟨y1, y2⟩ := yk
          dsimp only at HD0 HK0 HN0
          have d0 : decide ((0 : Int) < ((k + 1 : Nat) : Int)) = true := by simp
          have d1 : IntKind.i64.wrap (((k + 1 : Nat) : Int) - 1) = (k : Int) := by rw [IntKind.wrap_i64]; omega
          by_cases hyx : y1 < x1
          · have d2 : decide (x1 ≤ y1) = false := by simp; omega
            have HK1 := Lib.hid (HK0.out hyx)
            clear HK0 HN0 hyx
            refine region_qb' w4 w4.heap.size (Below.refl _ _) mixed' (by kernel_rfl) fun w5 hB hz => ?_
            have E5 := Lib.hid (E4.out.next hB)
            clear hB hz
            have EC := Lib.hid (fun d os => E5.out.next (below_regrown w5 d os))
            obtain ⟨⟨⟨p_0, p_1, -⟩, p_l⟩, -, -, -, -, -⟩ := E5.out.now
            obtain ⟨bv, ov, e4, ce, cf⟩ := HD0.out _ E5.out.now.2.2.1
            cases e4
            have qp_0 := cell_regrown p_0
            have qp_1 := cell_regrown p_1
            have qce := cell_regrown ce
            have qcf := cell_regrown cf
            clear p_0 p_1 p_l
            clear ce cf
            repeat (go_big_quiet_step (fail))
            refine wpQuiet_nil ?_
            rintro _ ⟨⟨dq, osq⟩, rfl⟩
            have E6 := Lib.hid (EC.out dq osq)
            generalize grow (redrawn w5 dq) osq = w6 at *
            clear EC qp_0 qp_1 qce qcf
            go_wp2
            go_roundw
            case rel => exact ⟨k + 2, by omega, by go_num, HK1.out, E6.out.now.2.1⟩
            case measure => simp [intOf]; omega
          · have d2 : decide (x1 ≤ y1) = true := by simp; omega
            have HV1 : Hid (V = 130) := Lib.hid (by rw [HV.out, HN0.out (by omega)]; rfl)
            clear HK0 HN0 hyx
            refine region_qb' w4 w4.heap.size (Below.refl _ _) mixed' (by kernel_rfl) fun w5 hB hz => ?_
            have E5 := Lib.hid (E4.out.next hB)
            clear hB hz
            have EC := Lib.hid (fun d os => E5.out.next (below_regrown w5 d os))
            obtain ⟨⟨⟨p_0, p_1, -⟩, p_l⟩, -, -, -, -, -⟩ := E5.out.now
            obtain ⟨bv, ov, e4, ce, cf⟩ := HD0.out _ E5.out.now.2.2.1
            cases e4
            have qp_0 := cell_regrown p_0
            have qp_1 := cell_regrown p_1
            have qce := cell_regrown ce
            have qcf := cell_regrown cf
            clear p_0 p_1 p_l
            clear ce cf
            repeat (go_big_quiet_step (fail))
            refine wpQuiet_nil ?_
            rintro _ ⟨⟨dq, osq⟩, rfl⟩
            have E6 := Lib.hid (EC.out dq osq)
            generalize grow (redrawn w5 dq) osq = w6 at *
            clear EC qp_0 qp_1 qce qcf
            go_wp2
            go_ret
            exact ⟨by rw [HV1.out]; rfl, E6.out.now.2.2.2.2.2⟩
      · obtain rfl : k = L.length := by omega
        have HV1 : Hid (V = 0) := Lib.hid (by rw [HV.out, if_pos]; exact riseB_iff.2 fun i hi => HA.out i hi)
        go_wp2
        go_ret
        exact ⟨by rw [HV1.out]; rfl, E3.out.now.2.2.2.2⟩
end Go.Proofs.Ytiemfklonhlnnaa.Seek

namespace Go.Proofs.Ytiemfklonhlnnaa.Conf
open Go.Proofs.Ytiemfklonhlnnaa.Frac

structure Cfg where
  tag : Int
  most : Int
  seg : Int
  least : Int
  den : Int
  ll : Int
  rl : Int
  rh : Int
  lh : Int

def powIn (n from_ to_ : Int) : Bool := decide (from_ ≤ n) && decide (n ≤ to_) && powB n

def sizesB (c : Cfg) : Bool := decide (1 ≤ c.tag) && decide (c.tag ≤ 3) && decide (1 ≤ c.most) && decide (c.most ≤ 16384) && powIn c.seg 4 64 && powIn c.least c.seg 256 && decide (1 ≤ c.den) && decide (c.den ≤ 64)
def partsB (c : Cfg) : Bool := decide (0 ≤ c.ll) && decide (c.ll < c.rl) && decide (c.rl < c.rh) && decide (c.rh < c.lh) && decide (c.lh ≤ c.den)
def restB (c : Cfg) : Bool := decide (c.den ≤ 2 * c.rh) && decide (8 * c.rl ≤ c.den) && decide (2 * c.den ≤ c.rl * c.least)

/-- The capacity for n pairs: at most so many doublings. -/
def takesAux (c : Cfg) (n : Int) : Nat → Int → Int
  | 0, size => size
  | f + 1, size => if c.rh * size < n * c.den then takesAux c n f (2 * size) else size
def takesV (c : Cfg) (n : Int) : Int := takesAux c n 20 c.least

def heightV (c : Cfg) (size : Int) : Int := ((size / c.seg).toNat.log2 : Nat)

/-- What the first three tests say together. -/
structure Cfg.Fine (c : Cfg) : Prop where
  t1 : 1 ≤ c.tag
  t2 : c.tag ≤ 3
  m1 : 1 ≤ c.most
  m2 : c.most ≤ 16384
  s1 : 4 ≤ c.seg
  s2 : c.seg ≤ 64
  s3 : powB c.seg = true
  l1 : c.seg ≤ c.least
  l2 : c.least ≤ 256
  l3 : powB c.least = true
  d1 : 1 ≤ c.den
  d2 : c.den ≤ 64
  p1 : 0 ≤ c.ll
  p2 : c.ll < c.rl
  p3 : c.rl < c.rh
  p4 : c.rh < c.lh
  p5 : c.lh ≤ c.den
  r1 : c.den ≤ 2 * c.rh
  r2 : 8 * c.rl ≤ c.den
  r3 : 2 * c.den ≤ c.rl * c.least

theorem fine_of {c : Cfg} (hs : sizesB c = true) (hp : partsB c = true) (hr : restB c = true) : c.Fine := by
  simp [sizesB, partsB, restB, powIn] at hs hp hr
  obtain ⟨⟨⟨⟨⟨⟨⟨a1, a2⟩, a3⟩, a4⟩, ⟨a5, a6⟩, a7⟩, ⟨a8, a9⟩, a10⟩, a11⟩, a12⟩ := hs
  obtain ⟨⟨⟨⟨b1, b2⟩, b3⟩, b4⟩, b5⟩ := hp
  obtain ⟨⟨c1, c2⟩, c3⟩ := hr
  exact ⟨a1, a2, a3, a4, a5, a6, a7, a8, a9, a10, a11, a12, b1, b2, b3, b4, b5, c1, c2, c3⟩
theorem Cfg.Fine.bools {c : Cfg} (h : c.Fine) : sizesB c = true ∧ partsB c = true ∧ restB c = true := by
  refine ⟨?_, ?_, ?_⟩
  · simp [sizesB, powIn, h.t1, h.t2, h.m1, h.m2, h.s1, h.s2, h.s3, h.l1, h.l2, h.l3, h.d1, h.d2]
  · simp [partsB, h.p1, h.p2, h.p3, h.p4, h.p5]
  · simp [restB, h.r1, h.r2, h.r3]

def okB (c : Cfg) : Bool := sizesB c && partsB c && restB c && decide (c.den * heightV c (takesV c c.most) ≤ (c.lh - c.rh) * c.seg)

theorem takesAux_stop {c : Cfg} {n size : Int} (h : ¬ c.rh * size < n * c.den) (f : Nat) : takesAux c n f size = size := by
  cases f with
  | zero => rfl
  | succ f => rw [takesAux, if_neg h]
theorem takesAux_go {c : Cfg} {n size : Int} (h : c.rh * size < n * c.den) (f : Nat) : takesAux c n (f + 1) size = takesAux c n f (2 * size) := by
  rw [takesAux, if_pos h]

/-- Where a capacity is too small, it is below twice the pairs. -/
theorem small_of_over {c : Cfg} (F : c.Fine) {n size : Int} (hn : 0 ≤ n) (hs : 0 ≤ size) (h : c.rh * size < n * c.den) : size < 2 * n := by
  have h1 : c.den * size ≤ 2 * (c.rh * size) := by
    have := Int.mul_le_mul_of_nonneg_right F.r1 hs
    rw [Int.mul_assoc] at this; exact this
  have h2 : c.den * size < c.den * (2 * n) := by
    have : c.den * (2 * n) = 2 * (n * c.den) := by rw [Int.mul_left_comm, Int.mul_comm c.den n]
    omega
  exact Int.lt_of_mul_lt_mul_left h2 (by have := F.d1; omega)

/-- Under way: so many doublings are left. -/
def TakesUnder (c : Cfg) (n size : Int) : Prop := ∃ f : Nat, takesAux c n f size = takesV c n ∧ 2 * n ≤ size * ((2 ^ f : Nat) : Int) ∧ 4 ≤ size ∧ size ≤ 65536

theorem takesUnder_start {c : Cfg} (F : c.Fine) {n : Int} (hn : n ≤ 16384) : TakesUnder c n c.least := by
  refine ⟨20, rfl, ?_, ?_, ?_⟩
  · have := F.l1; have := F.s1
    show 2 * n ≤ c.least * 1048576
    omega
  · have := F.l1; have := F.s1; omega
  · have := F.l2; omega

theorem takesUnder_go {c : Cfg} (F : c.Fine) {n size : Int} (hn : 0 ≤ n) (hm : n ≤ 16384) (h : TakesUnder c n size) (ho : c.rh * size < n * c.den) : TakesUnder c n (2 * size) ∧ size < 32768 := by
  obtain ⟨f, h1, h2, h3, h4⟩ := h
  have hs := small_of_over F hn (by omega) ho
  cases f with
  | zero => exfalso; simp at h2; omega
  | succ f =>
    refine ⟨⟨f, by rw [← takesAux_go ho]; exact h1, ?_, by omega, by omega⟩, by omega⟩
    rw [Nat.pow_succ, Int.natCast_mul] at h2
    have e : 2 * size * ((2 ^ f : Nat) : Int) = size * (((2 ^ f : Nat) : Int) * ((2 : Nat) : Int)) := by
      rw [Int.mul_comm 2 size, Int.mul_assoc, Int.mul_comm _ ((2 : Nat) : Int)]; rfl
    rw [e]
    exact h2

theorem takesUnder_stop {c : Cfg} {n size : Int} (h : TakesUnder c n size) (ho : ¬ c.rh * size < n * c.den) : size = takesV c n := by
  obtain ⟨f, h1, _⟩ := h
  rw [takesAux_stop ho] at h1; exact h1

theorem takesV_bounds {c : Cfg} (F : c.Fine) {n : Int} (hn : 0 ≤ n) (hm : n ≤ 16384) : 4 ≤ takesV c n ∧ takesV c n ≤ 65536 := by
  have key : ∀ (k : Nat) (size : Int), TakesUnder c n size → (65536 - size).toNat ≤ k → 4 ≤ takesV c n ∧ takesV c n ≤ 65536 := by
    intro k
    induction k with
    | zero =>
      intro size h hk
      by_cases ho : c.rh * size < n * c.den
      · have := (takesUnder_go F hn hm h ho).2; omega
      · rw [← takesUnder_stop h ho]; obtain ⟨f, _, _, h3, h4⟩ := h; exact ⟨h3, h4⟩
    | succ k ih =>
      intro size h hk
      by_cases ho : c.rh * size < n * c.den
      · have h2 := takesUnder_go F hn hm h ho
        obtain ⟨f, _, _, h3, h4⟩ := h
        exact ih (2 * size) h2.1 (by omega)
      · rw [← takesUnder_stop h ho]; obtain ⟨f, _, _, h3, h4⟩ := h; exact ⟨h3, h4⟩
  exact key _ _ (takesUnder_start F hm) (Nat.le_refl _)

/-- A cross product of small numbers, its sign. -/
theorem cross_takes {c : Cfg} (F : c.Fine) {n size : Int} (hn : 0 ≤ n) (hm : n ≤ 16384) (h1 : 4 ≤ size) (h2 : size ≤ 65536) :
    ∃ r, crossV n size c.rh c.den = (r, 0) ∧ ((0 < r ∧ c.rh * size < n * c.den) ∨ (r ≤ 0 ∧ ¬ c.rh * size < n * c.den)) := by
  have := F.p5; have := F.p4; have := F.d2; have := F.d1; have := F.r1
  refine ⟨sgn (n * c.den - size * c.rh), ?_, ?_⟩
  · unfold crossV
    rw [if_pos (by rw [smallB_yes (n := n) (by omega), smallB_yes (n := size) (by omega), smallB_yes (n := c.rh) (by omega), smallB_yes (n := c.den) (by omega)]; rfl)]
  · rw [Int.mul_comm size c.rh]
    unfold sgn
    by_cases h : c.rh * size < n * c.den
    · left; rw [if_neg (by omega), if_pos (by omega)]; exact ⟨by decide, h⟩
    · right; refine ⟨?_, h⟩
      split
      · decide
      · rw [if_neg (by omega)]; decide

def capV (c : Cfg) (n : Int) : Int × Int := if okB c = true then (if n < 0 then (0, 2) else if c.most < n then (0, 4) else (takesV c n, 0)) else (0, 50)
def highV (c : Cfg) (size : Int) : Int × Int := if okB c = true then (if powIn size c.least (takesV c c.most) = true then (heightV c size, 0) else (0, 2)) else (0, 50)
/-- How many slots a window of a height has. -/
def wide (c : Cfg) (h : Int) : Int := c.seg * ((2 ^ h.toNat : Nat) : Int)
def askedV (c : Cfg) (size h n : Int) : Int × Int :=
  if (highV c size).2 = 0 then (if h < 0 ∨ (highV c size).1 < h ∨ n < 0 ∨ wide c h < n then (0, 2) else ((highV c size).1, 0)) else (0, (highV c size).2)
def limitV (high h leaf root : Int) : Int := if 0 < high then leaf * (high - h) + root * h else root
def ofV (c : Cfg) (high : Int) : Int := if 0 < high then c.den * high else c.den
def fullB (c : Cfg) (size h n : Int) : Bool := decide (n * ofV c (heightV c size) ≤ wide c h * limitV (heightV c size) h c.lh c.rh)
def sparseB (c : Cfg) (size h n : Int) : Bool := decide (size = c.least) || decide (wide c h * limitV (heightV c size) h c.ll c.rl ≤ (n + 1) * ofV c (heightV c size))
def fullV (c : Cfg) (size h n : Int) : Bool × Int := if (askedV c size h n).2 = 0 then (fullB c size h n, 0) else (false, (askedV c size h n).2)
def sparseV (c : Cfg) (size h n : Int) : Bool × Int := if (askedV c size h n).2 = 0 then (sparseB c size h n, 0) else (false, (askedV c size h n).2)

theorem okB_fine {c : Cfg} (h : okB c = true) : c.Fine := by
  unfold okB at h
  simp only [Bool.and_eq_true] at h
  exact fine_of h.1.1.1 h.1.1.2 h.1.2

theorem takesAux_le {c : Cfg} (F : c.Fine) {n : Int} (hn : 0 ≤ n) (hm : n ≤ 16384) : takesV c n ≤ 65536 := (takesV_bounds F hn hm).2

/-- Where High answers: what is known of the capacity. -/
theorem high_facts {c : Cfg} {size H : Int} (h : highV c size = (H, 0)) : okB c = true ∧ c.Fine ∧ c.least ≤ size ∧ size ≤ 65536 ∧ powB size = true ∧ H = heightV c size ∧ 0 ≤ H ∧ H ≤ 14 := by
  unfold highV at h
  by_cases ho : okB c = true
  · rw [if_pos ho] at h
    have F := okB_fine ho
    by_cases hp : powIn size c.least (takesV c c.most) = true
    · rw [if_pos hp] at h
      have hH : H = heightV c size := by simpa using (congrArg Prod.fst h).symm
      simp [powIn] at hp
      have ht := takesAux_le F (n := c.most) (by have := F.m1; omega) F.m2
      refine ⟨ho, F, hp.1.1, by omega, hp.2, hH, ?_, ?_⟩
      · rw [hH]; exact Int.natCast_nonneg _
      · rw [hH]
        unfold heightV
        have s1 := F.s1
        have hq : size / c.seg ≤ 16384 := by
          have : size / c.seg ≤ size / 4 := by
            rw [Int.le_ediv_iff_mul_le (by decide)]
            have h0 : 0 ≤ size / c.seg := Int.ediv_nonneg (by have := F.l1; omega) (by omega)
            have h1 : size / c.seg * 4 ≤ size / c.seg * c.seg := Int.mul_le_mul_of_nonneg_left s1 h0
            have h2 : size / c.seg * c.seg ≤ size := Int.ediv_mul_le size (by omega)
            omega
          omega
        have : (size / c.seg).toNat.log2 ≤ 14 := by
          by_cases hz : (size / c.seg).toNat = 0
          · rw [hz]; decide
          · have := (Nat.log2_lt hz (k := 15)).2 (by omega)
            omega
        omega
    · rw [if_neg hp] at h; simp at h
  · rw [if_neg ho] at h; simp at h

theorem highV_cases (c : Cfg) (size : Int) : (∃ e, highV c size = (0, e) ∧ e ≠ 0) ∨ (∃ H, highV c size = (H, 0)) := by
  unfold highV
  by_cases ho : okB c = true
  · rw [if_pos ho]
    by_cases hp : powIn size c.least (takesV c c.most) = true
    · rw [if_pos hp]; exact .inr ⟨_, rfl⟩
    · rw [if_neg hp]; exact .inl ⟨_, rfl, by decide⟩
  · rw [if_neg ho]; exact .inl ⟨_, rfl, by decide⟩

/-- A window is no wider than all. -/
theorem wide_le {c : Cfg} (F : c.Fine) {size : Int} (hl : c.least ≤ size) (hu : size ≤ 65536) {k : Nat} (hk : (k : Int) ≤ heightV c size) : c.seg * ((2 ^ k : Nat) : Int) ≤ size ∧ 1 ≤ c.seg * ((2 ^ k : Nat) : Int) := by
  have s1 := F.s1
  have l1 := F.l1
  have hq : 1 ≤ size / c.seg := by rw [Int.le_ediv_iff_mul_le (by omega)]; omega
  unfold heightV at hk
  have h1 : 2 ^ k ≤ 2 ^ (size / c.seg).toNat.log2 := Nat.pow_le_pow_right (by decide) (by omega)
  have h2 : 2 ^ (size / c.seg).toNat.log2 ≤ (size / c.seg).toNat := Nat.log2_self_le (by omega)
  have h3 : ((2 ^ k : Nat) : Int) ≤ size / c.seg := by omega
  have h4 : c.seg * ((2 ^ k : Nat) : Int) ≤ c.seg * (size / c.seg) := Int.mul_le_mul_of_nonneg_left h3 (by omega)
  have h5 : c.seg * (size / c.seg) ≤ size := Int.mul_ediv_self_le (by omega)
  have h6 := Nat.two_pow_pos k
  have h7 : 1 * 1 ≤ c.seg * ((2 ^ k : Nat) : Int) := Int.mul_le_mul (by omega) (by omega) (by decide) (by omega)
  omega

theorem askedV_err {c : Cfg} {size h n e : Int} (hh : highV c size = (0, e)) (he : e ≠ 0) : askedV c size h n = (0, e) := by unfold askedV; rw [hh]; rw [if_neg he]
theorem askedV_arg {c : Cfg} {size h n H : Int} (hh : highV c size = (H, 0)) (ha : h < 0 ∨ H < h ∨ n < 0 ∨ wide c h < n) : askedV c size h n = (0, 2) := by unfold askedV; rw [hh]; rw [if_pos rfl, if_pos ha]
theorem askedV_ok {c : Cfg} {size h n H : Int} (hh : highV c size = (H, 0)) (ha : ¬ (h < 0 ∨ H < h ∨ n < 0 ∨ wide c h < n)) : askedV c size h n = (H, 0) := by unfold askedV; rw [hh]; rw [if_pos rfl, if_neg ha]

/-- The ways of askedV. -/
theorem askedV_cases (c : Cfg) (size h n : Int) : (∃ e, askedV c size h n = (0, e) ∧ e ≠ 0) ∨ (∃ (H : Int) (k : Nat), askedV c size h n = (H, 0) ∧ highV c size = (H, 0) ∧ h = (k : Int) ∧ (k : Int) ≤ H ∧ 0 ≤ n ∧ n ≤ c.seg * ((2 ^ k : Nat) : Int)) := by
  rcases highV_cases c size with ⟨e, he, hn⟩ | ⟨H, hH⟩
  · exact .inl ⟨e, askedV_err he hn, hn⟩
  · by_cases ha : h < 0 ∨ H < h ∨ n < 0 ∨ wide c h < n
    · exact .inl ⟨2, askedV_arg hH ha, by decide⟩
    · obtain ⟨k, rfl⟩ := Int.eq_ofNat_of_zero_le (show 0 ≤ h by omega)
      refine .inr ⟨H, k, askedV_ok hH ha, hH, rfl, by omega, by omega, ?_⟩
      unfold wide at ha
      rw [Int.toNat_natCast] at ha
      omega

theorem fullV_err {c : Cfg} {size h n e : Int} (ha : askedV c size h n = (0, e)) (he : e ≠ 0) : fullV c size h n = (false, e) := by unfold fullV; rw [ha]; rw [if_neg he]
theorem sparseV_err {c : Cfg} {size h n e : Int} (ha : askedV c size h n = (0, e)) (he : e ≠ 0) : sparseV c size h n = (false, e) := by unfold sparseV; rw [ha]; rw [if_neg he]
theorem fullV_ok {c : Cfg} {size h n H : Int} (ha : askedV c size h n = (H, 0)) : fullV c size h n = (fullB c size h n, 0) := by unfold fullV; rw [ha]; rw [if_pos rfl]
theorem sparseV_ok {c : Cfg} {size h n H : Int} (ha : askedV c size h n = (H, 0)) : sparseV c size h n = (sparseB c size h n, 0) := by unfold sparseV; rw [ha]; rw [if_pos rfl]

/-- Bounds on what density reckons with. -/
theorem limit_bounds {H h leaf root : Int} (hH : 0 ≤ H ∧ H ≤ 14) (hh : 0 ≤ h ∧ h ≤ H) (hl : 0 ≤ leaf ∧ leaf ≤ 64) (hr : 0 ≤ root ∧ root ≤ 64) : 0 ≤ limitV H h leaf root ∧ limitV H h leaf root ≤ 896 ∧ (0 ≤ leaf * (H - h) ∧ leaf * (H - h) ≤ 896) ∧ (0 ≤ root * h ∧ root * h ≤ 896) := by
  have a1 : 0 ≤ leaf * (H - h) := Int.mul_nonneg hl.1 (by omega)
  have a2 : leaf * (H - h) ≤ 64 * (H - h) := Int.mul_le_mul_of_nonneg_right hl.2 (by omega)
  have a3 : 0 ≤ root * h := Int.mul_nonneg hr.1 hh.1
  have a4 : root * h ≤ 64 * h := Int.mul_le_mul_of_nonneg_right hr.2 hh.1
  unfold limitV
  split <;> omega
theorem of_bounds {c : Cfg} (F : c.Fine) {H : Int} (hH : 0 ≤ H ∧ H ≤ 14) : 1 ≤ ofV c H ∧ ofV c H ≤ 896 ∧ 0 ≤ c.den * H ∧ c.den * H ≤ 896 := by
  have d1 := F.d1
  have d2 := F.d2
  have a1 : 0 ≤ c.den * H := Int.mul_nonneg (by omega) hH.1
  have a2 : c.den * H ≤ 64 * H := Int.mul_le_mul_of_nonneg_right d2 hH.1
  have a3 : 1 * H ≤ c.den * H := Int.mul_le_mul_of_nonneg_right d1 hH.1
  unfold ofV
  split <;> omega

end Go.Proofs.Ytiemfklonhlnnaa.Conf

namespace Go.Proofs.Ytiemfklonhlnnaa.Conf
open Go.RowKit Go.Proofs.Ytiemfklonhlnnaa Go.Proofs.Ytiemfklonhlnnaa.Frac

theorem mixed : Try.prog.follows .mixedOrders = true := by kernel_rfl

/-- A region that draws its order: what only reads comes first, the rest in its forced order. -/
theorem region_still_tail {P : Program} {id : Nat} {Q : Exit → Act → World → Prop} {a : Act} {w : World} {l : List Oper} (n : Nat) (hm : P.follows .mixedOrders = true) (hB : Region.lexTailB .any l.toArray n = true)
    (h : wpStill P l.toArray w.drew (fun a' => wpList P l.toArray Q (l.drop n) a' w.drew) (l.take n) a) : (Code.region id l.toArray true).wp P Q a w := wp_region_still_tail n hm hB h

set_option maxHeartbeats 400000 in
theorem all_any (b off cap : Nat) (zs : List Bool) (w : World) (hl : zs.length ≤ 9223372036854775807) (hc : ∀ i, i < zs.length → w.cell? ⟨b, off + i, Option.none⟩ = some (.bool (zs.getD i true))) :
    Calls Try.prog 40 #[.slice (some ⟨b, off, Option.none⟩) zs.length cap] w fun e w' => e = .returned (.bool (zs.all id)) ∧ w = w' := by
  go_enter Try.func40, Try.ntmps40
  go_wp2
  go_loop [4, 7] (fun _ i => ∃ k : Nat, k ≤ zs.length ∧ i = .int .i64 k ∧ (zs.take k).all id = true) (fun _ i => zs.length - (intOf i).toNat)
  case atStart => exact ⟨0, Nat.zero_le _, rfl, rfl⟩
  case round =>
    obtain ⟨k, hk, rfl, hall⟩ := hrel
    have Hall := Lib.hid hall
    clear hall
    by_cases hlt : k < zs.length
    · have hcell := hc k hlt
      have hs : (zs.take (k + 1)).all id = ((zs.take k).all id && zs.getD k true) := by
        rw [List.take_succ_eq_append_getElem hlt, List.all_append]
        simp [List.getD_eq_getElem?_getD, hlt]
      have Hs := Lib.hid hs
      have hno : zs.getD k true = false → zs.all id = false := fun h => by
        rw [List.all_eq_false]
        refine ⟨zs[k], List.getElem_mem _, ?_⟩
        simp [List.getD_eq_getElem?_getD, hlt] at h
        simp [h]
      have Hno := Lib.hid hno
      clear hc hs hno
      generalize zs.getD k true = z at hcell Hs Hno
      cases z
      · have Hno := Lib.hid (Hno.out rfl)
        go_wp2
        go_ret
        exact ⟨ret_bool (Hno.out trivial).symm, rfl⟩
      · go_wp2
        go_round
        case rel => exact ⟨k + 1, by omega, by go_num, by rw [Hs.out, Hall.out]; rfl⟩
        case measure => simp [intOf]; omega
    · have : k = zs.length := by omega
      subst this
      clear hc
      go_wp2
      go_ret
      exact ⟨ret_bool (by have := Hall.out; rw [List.take_length] at this; exact this.symm), rfl⟩

set_option maxHeartbeats 400000 in
theorem power_any (n from_ to_ : Int) (w : World) (wn : (Lit.int .i64 n).wf = true) :
    Calls Try.prog 41 #[.int .i64 n, .int .i64 from_, .int .i64 to_] w fun e w' => e = .returned (.bool (powIn n from_ to_)) ∧ w = w' := by
  obtain ⟨r, hr⟩ : ∃ r, powB n = r := ⟨_, rfl⟩
  have HP := fun w => Lib.hid (show Calls Try.prog 55 #[.int .i64 n] w fun e w' => e = .returned (.bool r) ∧ w = w' by rw [← hr]; exact Frac.power_any n w wn)
  have Hr := Lib.hid hr
  clear hr
  by_cases h1 : from_ ≤ n <;> by_cases h2 : n ≤ to_
  all_goals
    have HV := Lib.hid (show powIn n from_ to_ = (decide (from_ ≤ n) && decide (n ≤ to_) && r) by unfold powIn; rw [Hr.out])
    go_enter Try.func41, Try.ntmps41
    go_wp2_with (go_at_call 55; refine ((HP _).out).mono ?_; rintro e w' ⟨rfl, rfl⟩)
    go_ret
    exact ⟨ret_bool (by rw [HV.out]; simp; omega), rfl⟩

theorem all_is (b cap : Nat) (zs : List Bool) (w : World) (r : Bool) (hl : zs.length ≤ 9223372036854775807) (hr : zs.all id = r) (hc : ∀ i, i < zs.length → w.cell? ⟨b, i, Option.none⟩ = some (.bool (zs.getD i true))) :
    Calls Try.prog 40 #[.slice (some ⟨b, 0, Option.none⟩) zs.length cap] w fun e w' => e = .returned (.bool r) ∧ w = w' := by
  subst hr
  exact all_any b 0 cap zs w hl (fun i hi => by rw [Nat.zero_add]; exact hc i hi)

theorem downV_height (x : Int) : (downV x).1 = ((x.toNat.log2 : Nat) : Int) := by
  by_cases h : x < 1
  · rw [downV_no h, show x.toNat = 0 by omega]; rfl
  · rw [downV_yes h]

set_option maxHeartbeats 400000 in
theorem height_any (c : Cfg) (size : Int) (w : World) (hs : 1 ≤ c.seg) (h0 : 0 ≤ size) (h1 : size ≤ 9223372036854775807) :
    Calls Try.prog 42 #[.agg #[.int .u8 c.tag, .int .i64 c.most, .int .i64 c.seg, .int .i64 c.least, .int .i64 c.den, .int .i64 c.ll, .int .i64 c.rl, .int .i64 c.rh, .int .i64 c.lh], .int .i64 size] w fun e w' => e = .returned (.int .i64 (heightV c size)) ∧ Below w.heap.size w w' := by
  have hw : (Lit.int .i64 (size / c.seg)).wf = true := by
    have := Int.ediv_nonneg h0 (show 0 ≤ c.seg by omega)
    have := Int.ediv_le_self c.seg h0
    simp [Lit.wf, IntKind.min, IntKind.max, IntKind.signed, IntKind.bits]; omega
  obtain ⟨r, e, hd⟩ : ∃ r e, downV (size / c.seg) = (r, e) := ⟨_, _, rfl⟩
  have hr : r = heightV c size := by have := downV_height (size / c.seg); rw [hd] at this; exact this
  have hD := fun w => Frac.down_any (size / c.seg) w hw
  rw [hd] at hD
  have HD := Lib.hid hD
  have Hr := Lib.hid hr
  clear hD hr hd hw
  go_enter Try.func42, Try.ntmps42
  go_wp2_with (go_at_call 56; refine (HD.out _).mono ?_; rintro e w' ⟨rfl, rfl⟩)
  go_ret
  exact ⟨ret_int Hr.out, (Below.refl _ _).alloc (Nat.le_refl _) _⟩

def TakesJ (c : Cfg) (n : Int) (w : World) (a' : Act) (w' : World) : Prop :=
  ∃ (size : Int) (u6 u7 u8 u9 u10 u11 u12 u13 u14 u15 u16 u17 u18 u19 u20 u21 u22 u23 : Value), a' = { tmps := #[.agg #[.int .u8 c.tag, .int .i64 c.most, .int .i64 c.seg, .int .i64 c.least, .int .i64 c.den, .int .i64 c.ll, .int .i64 c.rl, .int .i64 c.rh, .int .i64 c.lh], .int .i64 n, .pointer (some ⟨w.heap.size, 0, Option.none⟩), undef, .int .i64 0, .int .i64 size, u6, u7, u8, u9, u10, u11, u12, u13, u14, u15, u16, u17, u18, u19, u20, u21, u22, u23, undef], defers := [] } ∧ Below (w.heap.size + 1) (w.alloc (.cells #[.int .u8 c.tag, .int .i64 c.most, .int .i64 c.seg, .int .i64 c.least, .int .i64 c.den, .int .i64 c.ll, .int .i64 c.rl, .int .i64 c.rh, .int .i64 c.lh] 23)) w' ∧ TakesUnder c n size
def TakesM (a' : Act) (_ : World) : Nat := (65537 - intOf (a'.tmps.getD 5 undef)).toNat

set_option maxRecDepth 100000 in
set_option maxHeartbeats 1000000 in
theorem takes_any (c : Cfg) (n : Int) (w : World) (F : c.Fine) (hn : 0 ≤ n) (hm : n ≤ 16384) :
    Calls Try.prog 43 #[.agg #[.int .u8 c.tag, .int .i64 c.most, .int .i64 c.seg, .int .i64 c.least, .int .i64 c.den, .int .i64 c.ll, .int .i64 c.rl, .int .i64 c.rh, .int .i64 c.lh], .int .i64 n] w fun e w' => e = .returned (.int .i64 (takesV c n)) ∧ Below w.heap.size w w' := by
  have l1 := F.l1
  have l2 := F.l2
  have s1 := F.s1
  have HF := Lib.hid F
  go_enter Try.func43, Try.ntmps43
  go_wp2
  refine wp_scope_jumps 0 (TakesJ c n w) TakesM rfl ?_ ?_
  · have HU := Lib.hid (takesUnder_start F hm)
    obtain ⟨r, hcr, hway⟩ := cross_takes F hn hm (show 4 ≤ c.least by omega) (show c.least ≤ 65536 by omega)
    have HC := Lib.hid (fun w => Frac.cross_is n c.least c.rh c.den w r 0 hcr)
    clear hcr
    rcases hway with ⟨hr, ho⟩ | ⟨hr, ho⟩
    · have hgo := takesUnder_go F hn hm HU.out ho
      have hlt := hgo.2
      have HG := Lib.hid hgo.1
      clear hgo ho
      go_wp2_with fail
      go_step3
      go_wp2_with fail
      refine (HC.out _).mono ?_
      rintro e w' ⟨rfl, hb⟩
      replace hb : Below (w.heap.size + 1) (w.alloc (.cells #[.int .u8 c.tag, .int .i64 c.most, .int .i64 c.seg, .int .i64 c.least, .int .i64 c.den, .int .i64 c.ll, .int .i64 c.rl, .int .i64 c.rh, .int .i64 c.lh] 23)) w' := hb.mono (by simp)
      go_wp2
      go_step3
      refine ⟨rfl, c.least * 2, _, _, _, _, _, _, _, _, _, _, _, _, _, _, _, _, _, _, rfl, hb, by rw [Int.mul_comm]; exact HG.out⟩
    · have hstop := Lib.hid (takesUnder_stop HU.out ho)
      clear ho
      go_wp2_with fail
      go_step3
      go_wp2_with fail
      refine (HC.out _).mono ?_
      rintro e w' ⟨rfl, hb⟩
      replace hb : Below (w.heap.size + 1) (w.alloc (.cells #[.int .u8 c.tag, .int .i64 c.most, .int .i64 c.seg, .int .i64 c.least, .int .i64 c.den, .int .i64 c.ll, .int .i64 c.rl, .int .i64 c.rh, .int .i64 c.lh] 23)) w' := hb.mono (by simp)
      go_wp2
      simp only [Exit.jump]
      go_ret
      exact ⟨ret_int hstop.out, ((Below.refl _ _).alloc (Nat.le_refl _) _).trans (hb.mono (by omega))⟩
  · rintro a' wr ⟨size, u6, u7, u8, u9, u10, u11, u12, u13, u14, u15, u16, u17, u18, u19, u20, u21, u22, u23, rfl, hB, hU⟩
    have HU := Lib.hid hU
    have b1 : 4 ≤ size := by obtain ⟨f, _, _, h3, h4⟩ := hU; exact h3
    have b2 : size ≤ 65536 := by obtain ⟨f, _, _, h3, h4⟩ := hU; exact h4
    clear hU
    have c7 : wr.cell? ⟨w.heap.size, 7, Option.none⟩ = some (.int .i64 c.rh) := by rw [hB.cell (p := ⟨w.heap.size, 7, Option.none⟩) (by simp)]; go_simp
    have c4 : wr.cell? ⟨w.heap.size, 4, Option.none⟩ = some (.int .i64 c.den) := by rw [hB.cell (p := ⟨w.heap.size, 4, Option.none⟩) (by simp)]; go_simp
    obtain ⟨r, hcr, hway⟩ := cross_takes F hn hm (show 4 ≤ size by omega) (show size ≤ 65536 by omega)
    have HC := Lib.hid (fun w => Frac.cross_is n size c.rh c.den w r 0 hcr)
    clear hcr
    rcases hway with ⟨hr, ho⟩ | ⟨hr, ho⟩
    · have hgo := takesUnder_go F hn hm HU.out ho
      have hlt := hgo.2
      have HG := Lib.hid hgo.1
      clear hgo ho
      go_wp2_with fail
      refine (HC.out _).mono ?_
      rintro e w' ⟨rfl, hb⟩
      replace hb : Below (w.heap.size + 1) (w.alloc (.cells #[.int .u8 c.tag, .int .i64 c.most, .int .i64 c.seg, .int .i64 c.least, .int .i64 c.den, .int .i64 c.ll, .int .i64 c.rl, .int .i64 c.rh, .int .i64 c.lh] 23)) w' := hB.trans (hb.mono (by have := hB.size; simp at this; omega))
      go_wp2
      go_step3
      refine ⟨rfl, ⟨size * 2, _, _, _, _, _, _, _, _, _, _, _, _, _, _, _, _, _, _, rfl, hb, by rw [Int.mul_comm]; exact HG.out⟩, by simp [TakesM, intOf]; omega⟩
    · have hstop := Lib.hid (takesUnder_stop HU.out ho)
      clear ho
      go_wp2_with fail
      refine (HC.out _).mono ?_
      rintro e w' ⟨rfl, hb⟩
      replace hb : Below (w.heap.size + 1) (w.alloc (.cells #[.int .u8 c.tag, .int .i64 c.most, .int .i64 c.seg, .int .i64 c.least, .int .i64 c.den, .int .i64 c.ll, .int .i64 c.rl, .int .i64 c.rh, .int .i64 c.lh] 23)) w' := hB.trans (hb.mono (by have := hB.size; simp at this; omega))
      go_wp2
      simp only [Exit.jump]
      go_ret
      exact ⟨ret_int hstop.out, ((Below.refl _ _).alloc (Nat.le_refl _) _).trans (hb.mono (by omega))⟩

def checkV (c : Cfg) : Int := if okB c = true then 0 else 50

/-- The fields fit their kinds. -/
structure Cfg.Wf (c : Cfg) : Prop where
  tag : (Lit.int .u8 c.tag).wf = true
  most : (Lit.int .i64 c.most).wf = true
  seg : (Lit.int .i64 c.seg).wf = true
  least : (Lit.int .i64 c.least).wf = true
  den : (Lit.int .i64 c.den).wf = true
  ll : (Lit.int .i64 c.ll).wf = true
  rl : (Lit.int .i64 c.rl).wf = true
  rh : (Lit.int .i64 c.rh).wf = true
  lh : (Lit.int .i64 c.lh).wf = true

theorem sizes_all (c : Cfg) : [decide (1 ≤ c.tag), decide (c.tag ≤ 3), decide (1 ≤ c.most), decide (c.most ≤ 16384), powIn c.seg 4 64, powIn c.least c.seg 256, decide (1 ≤ c.den), decide (c.den ≤ 64)].all id = sizesB c := by
  simp [sizesB, Bool.and_assoc]
theorem parts_all (c : Cfg) : [decide (0 ≤ c.ll), decide (c.ll < c.rl), decide (c.rl < c.rh), decide (c.rh < c.lh), decide (c.lh ≤ c.den)].all id = partsB c := by
  simp [partsB, Bool.and_assoc]
theorem rest_all (c : Cfg) : [decide (c.den ≤ 2 * c.rh), decide (8 * c.rl ≤ c.den), decide (2 * c.den ≤ c.rl * c.least)].all id = restB c := by
  simp [restB, Bool.and_assoc]

theorem checkV_no {c : Cfg} (h : okB c = false) : checkV c = 50 := by unfold checkV; rw [h]; rfl
theorem checkV_yes {c : Cfg} (h : okB c = true) : checkV c = 0 := by unfold checkV; rw [if_pos h]

set_option maxRecDepth 100000 in
set_option maxHeartbeats 4000000 in
theorem check_bad1 (c : Cfg) (w : World) (W : c.Wf) (h : sizesB c = false ∨ partsB c = false) :
    Calls Try.prog 27 #[.agg #[.int .u8 c.tag, .int .i64 c.most, .int .i64 c.seg, .int .i64 c.least, .int .i64 c.den, .int .i64 c.ll, .int .i64 c.rl, .int .i64 c.rh, .int .i64 c.lh]] w fun e w' => e = .returned (.int .i64 50) ∧ Below w.heap.size w w' := by
  obtain ⟨s, hs⟩ : ∃ s, sizesB c = s := ⟨_, rfl⟩
  obtain ⟨p, hp⟩ : ∃ p, partsB c = p := ⟨_, rfl⟩
  have HS := Lib.hid ((sizes_all c).trans hs)
  have HP := Lib.hid ((parts_all c).trans hp)
  have HW := Lib.hid W
  have hsp : (s = false) ∨ (s = true ∧ p = false) := by rw [hs, hp] at h; cases s <;> simp_all
  clear hs hp h
  rcases hsp with rfl | ⟨rfl, rfl⟩
  all_goals
    go_enter Try.func27, Try.ntmps27
    go_wp2
    refine region_still_tail 26 mixed (by kernel_rfl) ?_
    simp only [List.take_succ_cons, List.take_zero, List.drop_succ_cons, List.drop_zero]
    repeat still_step
    still_call ((power_any _ _ _ _ HW.out.seg).mono fun _ _ h => ⟨h.1, h.2.symm⟩)
    repeat still_step
    still_call ((power_any _ _ _ _ HW.out.least).mono fun _ _ h => ⟨h.1, h.2.symm⟩)
    repeat still_step
    refine wpStill_nil ?_
    go_wp2_with fail
    refine (all_is (w.heap.size + 1) 8 [decide (1 ≤ c.tag), decide (c.tag ≤ 3), decide (1 ≤ c.most), decide (c.most ≤ 16384), powIn c.seg 4 64, powIn c.least c.seg 256, decide (1 ≤ c.den), decide (c.den ≤ 64)] _ _ (by simp) HS.out ?_).mono ?_
    · intro i hi
      match i, hi with
      | 0, _ => go_simp
      | 1, _ => go_simp
      | 2, _ => go_simp
      | 3, _ => go_simp
      | 4, _ => go_simp
      | 5, _ => go_simp
      | 6, _ => go_simp
      | 7, _ => go_simp
    rintro e w' ⟨rfl, rfl⟩
    go_wp2_with fail
    refine (all_is (w.heap.size + 2) 5 [decide (0 ≤ c.ll), decide (c.ll < c.rl), decide (c.rl < c.rh), decide (c.rh < c.lh), decide (c.lh ≤ c.den)] _ _ (by simp) HP.out ?_).mono ?_
    · intro i hi
      match i, hi with
      | 0, _ => go_simp
      | 1, _ => go_simp
      | 2, _ => go_simp
      | 3, _ => go_simp
      | 4, _ => go_simp
    rintro e w' ⟨rfl, rfl⟩
    go_wp2
    go_ret
    exact ⟨rfl, by repeat (first | exact Below.refl _ _ | apply Below.drew | (refine Below.alloc ?_ (by simp; try omega) _))⟩

/-- Bounds of what is reckoned where the first two tests hold. -/
theorem sp_bounds {c : Cfg} (hs : sizesB c = true) (hp : partsB c = true) : (1 ≤ c.den ∧ c.den ≤ 64 ∧ 0 ≤ c.rl ∧ c.rl ≤ 64 ∧ 0 ≤ c.rh ∧ c.rh ≤ 64 ∧ 0 ≤ c.ll ∧ 1 ≤ c.lh ∧ c.lh ≤ 64 ∧ c.rh < c.lh) ∧ (4 ≤ c.seg ∧ c.seg ≤ 64 ∧ 4 ≤ c.least ∧ c.least ≤ 256) ∧ (0 ≤ c.rl * c.least ∧ c.rl * c.least ≤ 16384) ∧ (0 ≤ (c.lh - c.rh) * c.seg ∧ (c.lh - c.rh) * c.seg ≤ 4096) := by
  simp [sizesB, partsB, powIn] at hs hp
  have g1 : 0 ≤ c.rl * c.least := Int.mul_nonneg (by omega) (by omega)
  have g2 : c.rl * c.least ≤ 64 * 256 := Int.mul_le_mul (by omega) (by omega) (by omega) (by omega)
  have g3 : 0 ≤ (c.lh - c.rh) * c.seg := Int.mul_nonneg (by omega) (by omega)
  have g4 : (c.lh - c.rh) * c.seg ≤ 64 * 64 := Int.mul_le_mul (by omega) (by omega) (by omega) (by omega)
  exact ⟨by omega, by omega, ⟨g1, by omega⟩, ⟨g3, by omega⟩⟩

set_option maxRecDepth 100000 in
set_option maxHeartbeats 4000000 in
theorem check_rest (c : Cfg) (w : World) (W : c.Wf) (hs : sizesB c = true) (hp : partsB c = true) (hr : restB c = false) :
    Calls Try.prog 27 #[.agg #[.int .u8 c.tag, .int .i64 c.most, .int .i64 c.seg, .int .i64 c.least, .int .i64 c.den, .int .i64 c.ll, .int .i64 c.rl, .int .i64 c.rh, .int .i64 c.lh]] w fun e w' => e = .returned (.int .i64 50) ∧ Below w.heap.size w w' := by
  have HS := Lib.hid ((sizes_all c).trans hs)
  have HP := Lib.hid ((parts_all c).trans hp)
  have HR := Lib.hid ((rest_all c).trans hr)
  have HW := Lib.hid W
  obtain ⟨⟨d1, d2, r1, r2, r3, r4, r5, r6, r7, r8⟩, ⟨g1, g2, g3, g4⟩, ⟨q1, q2⟩, _⟩ := sp_bounds hs hp
  clear hs hp hr
  go_enter Try.func27, Try.ntmps27
  go_wp2
  refine region_still_tail 26 mixed (by kernel_rfl) ?_
  simp only [List.take_succ_cons, List.take_zero, List.drop_succ_cons, List.drop_zero]
  repeat still_step
  still_call ((power_any _ _ _ _ HW.out.seg).mono fun _ _ h => ⟨h.1, h.2.symm⟩)
  repeat still_step
  still_call ((power_any _ _ _ _ HW.out.least).mono fun _ _ h => ⟨h.1, h.2.symm⟩)
  repeat still_step
  refine wpStill_nil ?_
  go_wp2_with fail
  refine (all_is (w.heap.size + 1) 8 [decide (1 ≤ c.tag), decide (c.tag ≤ 3), decide (1 ≤ c.most), decide (c.most ≤ 16384), powIn c.seg 4 64, powIn c.least c.seg 256, decide (1 ≤ c.den), decide (c.den ≤ 64)] _ _ (by simp) HS.out ?_).mono ?_
  · intro i hi
    match i, hi with
    | 0, _ => go_simp
    | 1, _ => go_simp
    | 2, _ => go_simp
    | 3, _ => go_simp
    | 4, _ => go_simp
    | 5, _ => go_simp
    | 6, _ => go_simp
    | 7, _ => go_simp
  rintro e w' ⟨rfl, rfl⟩
  go_wp2_with fail
  refine (all_is (w.heap.size + 2) 5 [decide (0 ≤ c.ll), decide (c.ll < c.rl), decide (c.rl < c.rh), decide (c.rh < c.lh), decide (c.lh ≤ c.den)] _ _ (by simp) HP.out ?_).mono ?_
  · intro i hi
    match i, hi with
    | 0, _ => go_simp
    | 1, _ => go_simp
    | 2, _ => go_simp
    | 3, _ => go_simp
    | 4, _ => go_simp
  rintro e w' ⟨rfl, rfl⟩
  go_wp2_with fail
  refine (all_is (w.heap.size + 3) 3 [decide (c.den ≤ 2 * c.rh), decide (8 * c.rl ≤ c.den), decide (2 * c.den ≤ c.rl * c.least)] _ _ (by simp) HR.out ?_).mono ?_
  · intro i hi
    match i, hi with
    | 0, _ => go_simp
    | 1, _ => go_simp
    | 2, _ => go_simp
  rintro e w' ⟨rfl, rfl⟩
  go_wp2
  go_ret
  exact ⟨rfl, by repeat (first | exact Below.refl _ _ | apply Below.drew | (refine Below.alloc ?_ (by simp; try omega) _))⟩

end Go.Proofs.Ytiemfklonhlnnaa.Conf
