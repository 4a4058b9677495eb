/- Lists of the bits of words: plain. -/
import Derived.Test.YtnfjabohnjbgbaaDoorOccPlain
import Derived.Test.YtnfjabohnjbgbaaDoorOccBits
import Derived.Test.YtnfjabohnjbgbaaDoorRf
import Derived.Lib.TrailingZeros
namespace Go.Proofs.YtnfjabohnjbgbaaDoor.Occ
open Go.RowKit Go.Proofs.YtnfjabohnjbgbaaDoor

/-- The slots that are occupied, from f on, k of them looked at. -/
def occs (ws : List Int) (f k : Nat) : List Nat := (List.range' f k).filter (occB ws)
theorem occs_succ (ws : List Int) (f k : Nat) : occs ws f (k + 1) = occs ws f k ++ if occB ws (f + k) = true then [f + k] else [] := by
  unfold occs
  rw [List.range'_concat, List.filter_append, Nat.one_mul]
  congr 1
  by_cases h : occB ws (f + k) = true
  · simp [h]
  · simp [h]
theorem occs_length (ws : List Int) (f k : Nat) : (occs ws f k).length ≤ k := by
  have := List.length_filter_le (occB ws) (List.range' f k)
  rw [List.length_range'] at this
  exact this
theorem occs_add (ws : List Int) (f a b : Nat) : occs ws f (a + b) = occs ws f a ++ occs ws (f + a) b := by
  unfold occs; rw [← List.range'_append_1, List.filter_append]
theorem occs_mem {ws : List Int} {f k s : Nat} : s ∈ occs ws f k ↔ f ≤ s ∧ s < f + k ∧ occB ws s = true := by
  unfold occs; rw [List.mem_filter, List.mem_range'_1, and_assoc]

/-- The slots of a word's bits. -/
def bl (x f : Nat) : List Nat := ((List.range 64).filter (fun i => x.testBit i)).map (fun i => f + i)
theorem pop_count (n x : Nat) : Lib.popAux n x = ((List.range n).filter (fun i => x.testBit i)).length := by
  induction n generalizing x with
  | zero => rfl
  | succ n ih =>
    rw [List.range_succ_eq_map, List.filter_cons, List.filter_map]
    have e : (fun i => x.testBit i) ∘ Nat.succ = fun i => (x / 2).testBit i := by funext i; simp [Nat.testBit_succ]
    rw [e]
    show x % 2 + Lib.popAux n (x / 2) = _
    rw [ih (x / 2)]
    rw [Nat.testBit_zero]
    by_cases h : x % 2 = 1
    · simp [h]; omega
    · simp [h]; omega
theorem bl_length (x f : Nat) : (bl x f).length = Lib.popAux 64 x := by unfold bl; rw [List.length_map, pop_count]
theorem bl_zero (f : Nat) : bl 0 f = [] := by unfold bl; simp

def cutN (x l h : Nat) : Nat := (x / 2 ^ l * 2 ^ l) * 2 ^ h % 18446744073709551616 / 2 ^ h
theorem cutN_bit (x l h i : Nat) : (cutN x l h).testBit i = (decide (l ≤ i) && decide (i + h < 64) && x.testBit i) := by
  unfold cutN
  rw [show 18446744073709551616 = 2 ^ 64 by decide, Nat.testBit_div_two_pow, Nat.testBit_mod_two_pow, Nat.testBit_mul_two_pow, Nat.testBit_mul_two_pow, Nat.testBit_div_two_pow]
  by_cases h1 : l ≤ i
  · rw [show i + h - h = i by omega, show i - l + l = i by omega]
    by_cases h2 : i + h < 64 <;> simp [h1, h2]
  · rw [show i + h - h = i by omega]
    simp [h1]
theorem cutN_lt (x l h : Nat) (hx : x < 18446744073709551616) : cutN x l h < 18446744073709551616 :=
  Nat.lt_of_le_of_lt (Nat.div_le_self _ _) (Nat.mod_lt _ (by decide))

theorem filter_head (p q : Nat → Bool) (c n : Nat) (hc : c < n) (h1 : ∀ i, i < c → p i = false) (h2 : p c = true) (h3 : ∀ i, q i = (p i && decide (i ≠ c))) : (List.range n).filter p = c :: (List.range n).filter q := by
  obtain ⟨d, rfl⟩ : ∃ d, n = c + (d + 1) := ⟨n - c - 1, by omega⟩
  rw [List.range_eq_range', ← List.range'_append_1, List.filter_append, List.filter_append, Nat.zero_add, List.range'_succ]
  have e1 : (List.range' 0 c).filter p = [] := by
    rw [List.filter_eq_nil_iff]; intro i hi; have := List.mem_range'_1.1 hi; rw [h1 i (by omega)]; simp
  have e2 : (List.range' 0 c).filter q = [] := by
    rw [List.filter_eq_nil_iff]; intro i hi; have := List.mem_range'_1.1 hi; rw [h3, h1 i (by omega)]; simp
  rw [e1, e2, List.filter_cons_of_pos h2, List.filter_cons_of_neg (by rw [h3]; simp)]
  simp only [List.nil_append]
  congr 1
  apply List.filter_congr
  intro i hi
  have := List.mem_range'_1.1 hi
  rw [h3, decide_eq_true (by omega), Bool.and_true]
theorem filter_last (p : Nat → Bool) (b n : Nat) (hb : b < n) (h1 : p b = true) (h2 : ∀ i, b < i → p i = false) : (List.range n).filter p = (List.range b).filter p ++ [b] := by
  obtain ⟨d, rfl⟩ : ∃ d, n = b + (d + 1) := ⟨n - b - 1, by omega⟩
  rw [List.range_eq_range', ← List.range'_append_1, List.filter_append, Nat.zero_add, List.range'_succ, List.filter_cons_of_pos h1]
  have e2 : (List.range' (b + 1) d).filter p = [] := by
    rw [List.filter_eq_nil_iff]; intro i hi; have := List.mem_range'_1.1 hi; rw [h2 i (by omega)]; simp
  rw [e2, List.range_eq_range']

/-- The lowest bit first; then the others. -/
theorem low_bits (c m i : Nat) : (2 ^ c * (2 * m + 1)).testBit i = (if i < c then false else (2 * m + 1).testBit (i - c)) ∧ ((2 ^ c * (2 * m + 1)) &&& (2 ^ c * (2 * m + 1) - 1)).testBit i = ((2 ^ c * (2 * m + 1)).testBit i && decide (i ≠ c)) := by
  have hp : 0 < 2 ^ c := Nat.pow_pos (by decide)
  have e0 : (2 ^ c * (2 * m + 1)).testBit i = (if i < c then false else (2 * m + 1).testBit (i - c)) := by
    have := Nat.testBit_two_pow_mul_add (2 * m + 1) hp i
    rw [Nat.add_zero] at this
    rw [this]; simp
  refine ⟨e0, ?_⟩
  rw [Nat.testBit_and]
  have e1 : 2 ^ c * (2 * m + 1) - 1 = 2 ^ c * (2 * m) + (2 ^ c - 1) := by
    rw [Nat.mul_add, Nat.mul_one]; omega
  have e2 : (2 ^ c * (2 * m + 1) - 1).testBit i = (if i < c then (2 ^ c - 1).testBit i else (2 * m).testBit (i - c)) := by
    rw [e1]; exact Nat.testBit_two_pow_mul_add (2 * m) (show 2 ^ c - 1 < 2 ^ c by omega) i
  rw [e0, e2]
  by_cases h : i < c
  · simp [h]
  · simp only [h, if_false]
    rcases Nat.lt_or_ge c i with h1 | h1
    · obtain ⟨j, hj⟩ : ∃ j, i - c = j + 1 := ⟨i - c - 1, by omega⟩
      rw [hj, Nat.testBit_succ, Nat.testBit_succ, show (2 * m + 1) / 2 = m by omega, show 2 * m / 2 = m by omega]
      have : i ≠ c := by omega
      simp [this]
    · have : i = c := by omega
      subst this
      simp
theorem bl_head (x f : Nat) (h0 : x ≠ 0) (hx : x < 18446744073709551616) : bl x f = (f + Lib.ctz 64 x) :: bl (x &&& (x - 1)) f := by
  obtain ⟨m, hm, hk⟩ := Lib.ctzFrom_spec 64 x (by omega) hx
  have e : Lib.ctz 64 x = Lib.ctzFrom 64 x := by simp [Lib.ctz, h0]
  rw [← e] at hm hk
  generalize Lib.ctz 64 x = c at *
  unfold bl
  rw [filter_head (fun i => x.testBit i) (fun i => (x &&& (x - 1)).testBit i) c 64 hk ?_ ?_ ?_]
  · rfl
  · intro i hi
    show x.testBit i = false
    rw [hm, (low_bits c m i).1, if_pos hi]
  · show x.testBit c = true
    rw [hm, (low_bits c m c).1, if_neg (Nat.lt_irrefl _)]
    simp
  · intro i
    show (x &&& (x - 1)).testBit i = (x.testBit i && decide (i ≠ c))
    rw [hm]
    exact (low_bits c m i).2
theorem bitLen_log (f x : Nat) (h0 : x ≠ 0) (hx : x < 2 ^ f) : Lib.bitLenAux f x = x.log2 + 1 := by
  induction f generalizing x with
  | zero => simp at hx; omega
  | succ f ih =>
    show (if x = 0 then 0 else 1 + Lib.bitLenAux f (x / 2)) = _
    rw [if_neg h0]
    by_cases h1 : x = 1
    · subst h1
      rw [show (1 : Nat).log2 = 0 by decide]
      cases f <;> simp [Lib.bitLenAux]
    · rw [ih (x / 2) (by omega) (by rw [Nat.pow_succ] at hx; omega), Nat.log2_def x, if_pos (by omega)]; omega
theorem bl_last (x f : Nat) (h0 : x ≠ 0) (hx : x < 18446744073709551616) : (∃ l, bl x f = l ++ [f + (Lib.bitLen x - 1)]) ∧ 1 ≤ Lib.bitLen x ∧ Lib.bitLen x ≤ 64 := by
  have e : Lib.bitLen x = x.log2 + 1 := bitLen_log 64 x h0 hx
  have h1 : 2 ^ x.log2 ≤ x := Nat.log2_self_le h0
  have h2 : x < 2 ^ (x.log2 + 1) := Nat.lt_log2_self
  have h3 : x.log2 < 64 := (Nat.log2_lt h0).2 hx
  rw [e]
  refine ⟨⟨((List.range x.log2).filter (fun i => x.testBit i)).map (fun i => f + i), ?_⟩, by omega, by omega⟩
  unfold bl
  rw [filter_last (fun i => x.testBit i) x.log2 64 h3 ?_ ?_, List.map_append]
  · rfl
  · show x.testBit x.log2 = true
    rw [testBit_is, decide_eq_true_eq]
    have : x / 2 ^ x.log2 = 1 := by
      apply Nat.div_eq_of_lt_le
      · omega
      · rw [Nat.pow_succ] at h2; omega
    rw [this]
  · intro i hi
    exact Nat.testBit_lt_two_pow (Nat.lt_of_lt_of_le h2 (Nat.pow_le_pow_right (by decide) hi))

/-- The words of slots from one on, ahead of another one, without the bits of others. -/
def pw (ws : List Int) (f t k : Nat) : Nat := cutN (wd ws k) (f - 64 * k) (64 * (k + 1) - t)
def yl (ws : List Int) (f t j : Nat) : Nat × Nat := (64 * (f / 64 + j), pw ws f t (f / 64 + j))
def ny (f t : Nat) : Nat := (t + 63) / 64 - f / 64
def blL (l : List (Nat × Nat)) : List Nat := l.flatMap (fun p => bl p.2 p.1)
theorem blL_snoc (l : List (Nat × Nat)) (p : Nat × Nat) : blL (l ++ [p]) = blL l ++ bl p.2 p.1 := by unfold blL; simp
theorem bl_pw (ws : List Int) (f t k : Nat) (hft : f ≤ t) (hk : 64 * k < t) (hf : f < 64 * (k + 1)) : bl (pw ws f t k) (64 * k) = occs ws (max f (64 * k)) (min t (64 * (k + 1)) - max f (64 * k)) := by
  obtain ⟨l, hl⟩ : ∃ l, l = f - 64 * k := ⟨_, rfl⟩
  obtain ⟨h, hh⟩ : ∃ h, h = 64 * (k + 1) - t := ⟨_, rfl⟩
  obtain ⟨m, hm⟩ : ∃ m, m = 64 - l - h := ⟨_, rfl⟩
  have e1 : max f (64 * k) = 64 * k + l := by omega
  have e2 : min t (64 * (k + 1)) - max f (64 * k) = m := by omega
  rw [e2, e1]
  unfold bl pw
  rw [← hl, ← hh]
  have es : List.range 64 = List.range' 0 l ++ (List.range' l m ++ List.range' (l + m) h) := by
    rw [List.range'_append_1, List.range_eq_range', show (64 : Nat) = l + (m + h) by omega, ← List.range'_append_1, Nat.zero_add]
  rw [es, List.filter_append, List.filter_append]
  have f1 : (List.range' 0 l).filter (fun i => (cutN (wd ws k) l h).testBit i) = [] := by
    rw [List.filter_eq_nil_iff]; intro i hi; have := List.mem_range'_1.1 hi; rw [cutN_bit, decide_eq_false (by omega)]; simp
  have f2 : (List.range' (l + m) h).filter (fun i => (cutN (wd ws k) l h).testBit i) = [] := by
    rw [List.filter_eq_nil_iff]; intro i hi; have := List.mem_range'_1.1 hi; rw [cutN_bit, decide_eq_false (show ¬ i + h < 64 by omega)]; simp
  rw [f1, f2, List.nil_append, List.append_nil]
  unfold occs
  rw [show List.range' (64 * k + l) m = (List.range' l m).map (fun i => 64 * k + i) by rw [List.map_add_range']; , List.filter_map]
  congr 1
  apply List.filter_congr
  intro i hi
  have := List.mem_range'_1.1 hi
  rw [cutN_bit, decide_eq_true (show l ≤ i by omega), decide_eq_true (show i + h < 64 by omega)]
  show _ = occB ws (64 * k + i)
  unfold occB
  rw [show (64 * k + i) / 64 = k by omega, show (64 * k + i) % 64 = i by omega]
  rfl
theorem occs_parts (ws : List Int) (f t : Nat) (hft : f ≤ t) : ∀ j, j ≤ ny f t → blL (upto (yl ws f t) j) = occs ws f (min t (64 * (f / 64 + j)) - f) := by
  intro j
  induction j with
  | zero =>
    intro _
    rw [show min t (64 * (f / 64 + 0)) - f = 0 by omega]; rfl
  | succ j ih =>
    intro hj
    have hj2 : j < ny f t := hj
    unfold ny at hj2
    rw [upto_succ, blL_snoc, ih (by omega)]
    show _ ++ bl (pw ws f t (f / 64 + j)) (64 * (f / 64 + j)) = _
    rw [bl_pw ws f t _ hft (by omega) (by omega)]
    rw [show min t (64 * (f / 64 + (j + 1))) - f = (min t (64 * (f / 64 + j)) - f) + (min t (64 * (f / 64 + j + 1)) - max f (64 * (f / 64 + j))) by omega, occs_add]
    rw [show f + (min t (64 * (f / 64 + j)) - f) = max f (64 * (f / 64 + j)) by omega]
theorem occs_all (ws : List Int) (f t : Nat) (hft : f ≤ t) : blL (upto (yl ws f t) (ny f t)) = occs ws f (t - f) := by
  rw [occs_parts ws f t hft _ (Nat.le_refl _)]
  congr 1
  unfold ny
  omega
theorem occs_pre {ws : List Int} {f t : Nat} (hft : f ≤ t) {pre : List (Nat × Nat)} (h : pre <+: upto (yl ws f t) (ny f t)) : ∃ r, occs ws f (t - f) = blL pre ++ r := by
  obtain ⟨r, hr⟩ := h
  exact ⟨blL r, by rw [← occs_all ws f t hft, ← hr]; unfold blL; rw [List.flatMap_append]⟩
end Go.Proofs.YtnfjabohnjbgbaaDoor.Occ
