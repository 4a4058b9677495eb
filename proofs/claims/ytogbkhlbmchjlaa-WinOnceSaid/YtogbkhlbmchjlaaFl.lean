/- Plain facts on words of the double format that stand for integers: no program in sight. -/
import Derived.Laws.ComplexArith
namespace Go.Proofs.Ytogbkhlbmchjlaa.Fl
open Go Ieee

/-- The word x of the double format stands for the integer n. -/
def IsInt (x : Nat) (n : Int) : Prop := ∃ s m k, double.read x = .number s m (-(k : Nat)) ∧ (if s then -(m : Int) else (m : Int)) = n * 2 ^ k

theorem signed_shift (s : Bool) (m k : Nat) : signed s m k = (if s then -(m : Int) else (m : Int)) * 2 ^ k := by
  unfold signed
  cases s <;> simp [Nat.shiftLeft_eq, Int.neg_mul]

theorem read_word (s : Bool) (r : Nat) (h : r < 2 ^ 63) : double.word s r < 2^64 ∧ (double.word s r / double.signWeight % 2 == 1) = s ∧ double.word s r % double.signWeight = r := by
  have e : double.signWeight = 2 ^ 63 := rfl
  unfold Format.word
  rw [e]
  cases s <;> simp <;> omega

/-- A zero is written and read back. -/
theorem read_zero (s : Bool) : double.read (double.word s 0) = .number s 0 (-(1074 : Nat)) := by
  cases s <;> rfl

theorem log2_shift (n k : Nat) (h : n ≠ 0) : (n <<< k).log2 = n.log2 + k := by
  have h1 : n <<< k ≠ 0 := by rw [Nat.shiftLeft_eq]; exact Nat.mul_ne_zero h (Nat.pos_iff_ne_zero.1 (Nat.two_pow_pos k))
  rw [Nat.log2_eq_iff h1, Nat.shiftLeft_eq]
  have a := Nat.log2_self_le h
  have b := Nat.lt_log2_self (n := n)
  constructor
  · rw [Nat.pow_add]; exact Nat.mul_le_mul_right _ a
  · rw [show n.log2 + k + 1 = (n.log2 + 1) + k by omega, Nat.pow_add]; exact Nat.mul_lt_mul_of_pos_right b (Nat.two_pow_pos k)

theorem cut_exact (s : Bool) (n d : Nat) (h : d ≤ (n <<< d).log2 + 2) : Toward.even.cut s (n <<< d) d = n := by
  unfold Toward.cut
  have e : min d ((n <<< d).log2 + 2) = d := Nat.min_eq_left h
  rw [e]
  simp only [Nat.shiftLeft_eq, Nat.one_mul]
  have p := Nat.two_pow_pos d
  rw [Nat.mul_div_cancel _ p, Nat.mul_mod_left]
  generalize 2 ^ d = q at *
  have c1 : decide (q < 2 * 0) = false := by simp
  have c2 : (q == 2 * 0) = false := by simp; omega
  simp only [c1, c2]
  rfl

theorem nearest_exact (s : Bool) (N k : Nat) (h0 : N ≠ 0) (h1 : N < 2 ^ 53) :
    double.nearest s (N <<< k) (-(k : Nat)) = double.word s ((N.log2 + 1022) * 2 ^ 52 + N <<< (52 - N.log2)) := by
  have hlog : N.log2 < 53 := (Nat.log2_lt h0).2 h1
  have hs : N <<< k ≠ 0 := by rw [Nat.shiftLeft_eq]; exact Nat.mul_ne_zero h0 (Nat.pos_iff_ne_zero.1 (Nat.two_pow_pos k))
  have el := log2_shift N k h0
  unfold Format.nearest
  rw [if_neg hs]
  have elp : double.leastPlace = -1074 := rfl
  have efb : double.fractionBits = 52 := rfl
  have ebi : double.binade = 2 ^ 52 := rfl
  have eir : double.infRung = 2047 * 2 ^ 52 := rfl
  simp only [el, elp, efb, ebi, eir]
  have e1 : max (-(k : Int) + ((N.log2 + k : Nat) : Int) - ((52 : Nat) : Int)) (-1074) = (N.log2 : Int) - 52 := by omega
  rw [e1]
  have hkept : Toward.even.cut s (N <<< k <<< (-(k : Int) - ((N.log2 : Int) - 52)).toNat) ((N.log2 : Int) - 52 - -(k : Int)).toNat = N <<< (52 - N.log2) := by
    by_cases c : k ≤ 52 - N.log2
    · have a1 : (-(k : Int) - ((N.log2 : Int) - 52)).toNat = 52 - N.log2 - k := by omega
      have a2 : ((N.log2 : Int) - 52 - -(k : Int)).toNat = 0 := by omega
      rw [a1, a2]
      have := cut_exact s (N <<< (52 - N.log2)) 0 (by omega)
      rw [Nat.shiftLeft_zero] at this
      rw [← Nat.shiftLeft_add, show k + (52 - N.log2 - k) = 52 - N.log2 by omega]
      exact this
    · have a1 : (-(k : Int) - ((N.log2 : Int) - 52)).toNat = 0 := by omega
      have a2 : ((N.log2 : Int) - 52 - -(k : Int)).toNat = k - (52 - N.log2) := by omega
      rw [a1, a2, Nat.shiftLeft_zero]
      have := cut_exact s (N <<< (52 - N.log2)) (k - (52 - N.log2)) (by
        rw [← Nat.shiftLeft_add, show 52 - N.log2 + (k - (52 - N.log2)) = k by omega, el]; omega)
      rw [← Nat.shiftLeft_add, show 52 - N.log2 + (k - (52 - N.log2)) = k by omega] at this
      exact this
  rw [hkept]
  have e2 : ((N.log2 : Int) - 52 - -1074).toNat = N.log2 + 1022 := by omega
  rw [e2]
  have hk2 : N <<< (52 - N.log2) < 2 ^ 53 := by
    rw [Nat.shiftLeft_eq]
    have b := Nat.lt_log2_self (n := N)
    have : N * 2 ^ (52 - N.log2) < 2 ^ (N.log2 + 1) * 2 ^ (52 - N.log2) := Nat.mul_lt_mul_of_pos_right b (Nat.two_pow_pos _)
    rw [← Nat.pow_add, show N.log2 + 1 + (52 - N.log2) = 53 by omega] at this
    exact this
  rw [Nat.min_eq_left]
  omega

theorem read_exact (s : Bool) (N k : Nat) (h0 : N ≠ 0) (h1 : N < 2 ^ 53) :
    double.read (double.nearest s (N <<< k) (-(k : Nat))) = .number s (N <<< (52 - N.log2)) (-((52 - N.log2 : Nat) : Nat)) := by
  rw [nearest_exact s N k h0 h1]
  have hlog : N.log2 < 53 := (Nat.log2_lt h0).2 h1
  have hk2 : N <<< (52 - N.log2) < 2 ^ 53 := by
    rw [Nat.shiftLeft_eq]
    have b := Nat.lt_log2_self (n := N)
    have : N * 2 ^ (52 - N.log2) < 2 ^ (N.log2 + 1) * 2 ^ (52 - N.log2) := Nat.mul_lt_mul_of_pos_right b (Nat.two_pow_pos _)
    rw [← Nat.pow_add, show N.log2 + 1 + (52 - N.log2) = 53 by omega] at this
    exact this
  have hk1 : 2 ^ 52 ≤ N <<< (52 - N.log2) := by
    rw [Nat.shiftLeft_eq]
    have b := Nat.log2_self_le h0
    have : 2 ^ N.log2 * 2 ^ (52 - N.log2) ≤ N * 2 ^ (52 - N.log2) := Nat.mul_le_mul_right _ b
    rw [← Nat.pow_add, show N.log2 + (52 - N.log2) = 52 by omega] at this
    exact this
  generalize N <<< (52 - N.log2) = kept at *
  obtain ⟨_, e1, e2⟩ := read_word s ((N.log2 + 1022) * 2 ^ 52 + kept) (by omega)
  unfold Format.read
  have elp : double.leastPlace = -1074 := rfl
  have ebi : double.binade = 2 ^ 52 := rfl
  have eir : double.infRung = 2047 * 2 ^ 52 := rfl
  simp only [e1, e2, elp, ebi, eir]
  rw [if_neg (by omega), if_pos (by omega)]
  congr 1
  · omega
  · omega

/-- What is written of an integer that is small enough is that integer. -/
theorem isInt_write (s : Bool) (N k : Nat) (h1 : N < 2 ^ 53) (n : Int) (hn : (if s then -(N : Int) else (N : Int)) = n) : IsInt (double.write (.number s (N <<< k) (-(k : Nat)))) n := by
  show IsInt (double.nearest s (N <<< k) (-(k : Nat))) n
  by_cases h0 : N = 0
  · subst h0
    have : double.nearest s (0 <<< k) (-(k : Nat)) = double.word s 0 := by
      unfold Format.nearest; simp
    rw [this]
    refine ⟨s, 0, 1074, read_zero s, ?_⟩
    subst hn
    have e : (if s then -((0 : Nat) : Int) else ((0 : Nat) : Int)) = 0 := by cases s <;> rfl
    rw [e, Int.zero_mul]
  · refine ⟨s, _, _, read_exact s N k h0 h1, ?_⟩
    subst hn
    rw [Nat.shiftLeft_eq]
    cases s <;> simp [Int.neg_mul]

theorem isInt_ofInt (n : Int) (h : n.natAbs < 2 ^ 53) : IsInt (floatOfInt .f64 n) n := by
  have := isInt_write (decide (n < 0)) n.natAbs 0 h n (by
    by_cases c : n < 0
    · simp [c]; omega
    · simp [c]; omega)
  rw [Nat.shiftLeft_zero] at this
  exact this

theorem isInt_neg {x : Nat} {n : Int} (h : IsInt x n) : IsInt (Op.negFloat .f64 x) (-n) := by
  obtain ⟨s, m, k, hr, hv⟩ := h
  refine ⟨!s, m, k, ?_, ?_⟩
  · have e : Op.negFloat .f64 x = x ^^^ 2 ^ 63 := rfl
    rw [e]
    unfold Format.read at hr ⊢
    have esw : double.signWeight = 2 ^ 63 := rfl
    rw [esw] at hr ⊢
    have e1 : (x ^^^ 2 ^ 63) % 2 ^ 63 = x % 2 ^ 63 := by
      rw [Nat.xor_mod_two_pow]; simp
    have e2 : ((x ^^^ 2 ^ 63) / 2 ^ 63 % 2 == 1) = !(x / 2 ^ 63 % 2 == 1) := by
      rw [Nat.xor_div_two_pow, Nat.div_self (Nat.two_pow_pos 63)]
      rw [show 2 = 2 ^ 1 from rfl, Nat.xor_mod_two_pow]
      have : x / (2 ^ 1) ^ 63 % 2 ^ 1 < 2 := Nat.mod_lt _ (by decide)
      generalize x / (2 ^ 1) ^ 63 % 2 ^ 1 = y at *
      have : y = 0 ∨ y = 1 := by omega
      rcases this with rfl | rfl <;> rfl
    simp only [e1, e2]
    generalize (x / 2 ^ 63 % 2 == 1) = t at *
    dsimp only at hr
    split at hr
    · rename_i c; rw [if_pos c]; simp only [Datum.number.injEq] at hr ⊢; obtain ⟨rfl, rfl, h3⟩ := hr; exact ⟨rfl, rfl, h3⟩
    · rename_i c
      rw [if_neg c]
      split at hr
      · rename_i c; rw [if_pos c]; simp only [Datum.number.injEq] at hr ⊢; obtain ⟨rfl, rfl, h3⟩ := hr; exact ⟨rfl, rfl, h3⟩
      · split at hr
        · exact absurd hr (by simp)
        · exact absurd hr (by simp)
  · cases s <;> simp at hv ⊢ <;> rw [Int.neg_mul, ← hv] <;> simp

theorem isInt_mul {x y : Nat} {a b : Int} (hx : IsInt x a) (hy : IsInt y b) (h : (a * b).natAbs < 2 ^ 53) : ∃ r, floatBits .mul .f64 x y = some r ∧ IsInt r (a * b) := by
  obtain ⟨s, m, k, hr, hv⟩ := hx
  obtain ⟨t, n, l, hr', hv'⟩ := hy
  have e : floatBits .mul .f64 x y = some (double.write (.number (s ^^ t) (m * n) (-(k : Int) + -(l : Int)))) := by
    show double.mul x y = _
    unfold Format.mul
    rw [hr, hr']
    rfl
  refine ⟨_, e, ?_⟩
  have em : m = a.natAbs * 2 ^ k := by
    have := congrArg Int.natAbs hv
    rw [Int.natAbs_mul, Int.natAbs_pow] at this
    cases s <;> simpa using this
  have en : n = b.natAbs * 2 ^ l := by
    have := congrArg Int.natAbs hv'
    rw [Int.natAbs_mul, Int.natAbs_pow] at this
    cases t <;> simpa using this
  have e2 : m * n = (a * b).natAbs <<< (k + l) := by
    rw [Nat.shiftLeft_eq, Int.natAbs_mul, Nat.pow_add, em, en]
    simp only [Nat.mul_left_comm, Nat.mul_assoc]
  have e3 : -(k : Int) + -(l : Int) = -((k + l : Nat) : Int) := by omega
  rw [e2, e3]
  by_cases hz : a * b = 0
  · rw [hz]
    exact isInt_write _ 0 _ (by decide) 0 (by cases (s ^^ t) <;> simp)
  · refine isInt_write _ _ _ h _ ?_
    have ha : a ≠ 0 := fun c => hz (by simp [c])
    have hb : b ≠ 0 := fun c => hz (by simp [c])
    have p1 : (0 : Int) < 2 ^ k := by exact_mod_cast Nat.two_pow_pos k
    have p2 : (0 : Int) < 2 ^ l := by exact_mod_cast Nat.two_pow_pos l
    have sa : s = true ↔ a < 0 := by
      constructor
      · intro c; subst c
        simp at hv
        rcases Int.lt_or_lt_of_ne ha with q | q
        · exact q
        · exfalso; have := Int.mul_pos q p1; omega
      · intro c
        cases s with
        | true => rfl
        | false => exfalso; simp at hv; have := Int.mul_neg_of_neg_of_pos c p1; omega
    have sb : t = true ↔ b < 0 := by
      constructor
      · intro c; subst c
        simp at hv'
        rcases Int.lt_or_lt_of_ne hb with q | q
        · exact q
        · exfalso; have := Int.mul_pos q p2; omega
      · intro c
        cases t with
        | true => rfl
        | false => exfalso; simp at hv'; have := Int.mul_neg_of_neg_of_pos c p2; omega
    by_cases ca : a < 0 <;> by_cases cb : b < 0
    · have := Int.mul_pos_of_neg_of_neg ca cb
      simp [sa.2 ca, sb.2 cb]; omega
    · have := Int.mul_neg_of_neg_of_pos ca (show 0 < b by omega)
      have tf : t = false := by cases t with | false => rfl | true => exact absurd (sb.1 rfl) cb
      simp [sa.2 ca, tf]; omega
    · have := Int.mul_neg_of_pos_of_neg (show 0 < a by omega) cb
      have sf : s = false := by cases s with | false => rfl | true => exact absurd (sa.1 rfl) ca
      simp [sb.2 cb, sf]; omega
    · have := Int.mul_pos (show 0 < a by omega) (show 0 < b by omega)
      have tf : t = false := by cases t with | false => rfl | true => exact absurd (sb.1 rfl) cb
      have sf : s = false := by cases s with | false => rfl | true => exact absurd (sa.1 rfl) ca
      simp [tf, sf]; omega

theorem signed_read {s : Bool} {m k : Nat} {n : Int} (h : (if s then -(m : Int) else (m : Int)) = n * 2 ^ k) (u : Nat) : signed s m u = n * 2 ^ (k + u) := by
  rw [signed_shift, h, Int.pow_add, Int.mul_assoc]

/-- The sum of two words that stand for integers. -/
theorem isInt_add {x y : Nat} {a b : Int} (hx : IsInt x a) (hy : IsInt y b) (h : (a + b).natAbs < 2 ^ 53) : ∃ r, floatBits .add .f64 x y = some r ∧ IsInt r (a + b) := by
  obtain ⟨s, m, k, hr, hv⟩ := hx
  obtain ⟨t, n, l, hr', hv'⟩ := hy
  have e : double.add x y = some (double.write (.number (if signed s m ((-(k : Int)) - min (-(k : Int)) (-(l : Int))).toNat + signed t n ((-(l : Int)) - min (-(k : Int)) (-(l : Int))).toNat = 0 then s && t else signed s m ((-(k : Int)) - min (-(k : Int)) (-(l : Int))).toNat + signed t n ((-(l : Int)) - min (-(k : Int)) (-(l : Int))).toNat < 0) (signed s m ((-(k : Int)) - min (-(k : Int)) (-(l : Int))).toNat + signed t n ((-(l : Int)) - min (-(k : Int)) (-(l : Int))).toNat).natAbs (min (-(k : Int)) (-(l : Int))))) := by
    unfold Format.add
    rw [hr, hr']
    simp only [Datum.sum, Option.map_some]
  refine ⟨_, e, ?_⟩
  have e1 : min (-(k : Int)) (-(l : Int)) = -((max k l : Nat) : Int) := by omega
  rw [signed_read hv, signed_read hv', e1]
  have f1 : k + ((-(k : Int)) - -((max k l : Nat) : Int)).toNat = max k l := by omega
  have f2 : l + ((-(l : Int)) - -((max k l : Nat) : Int)).toNat = max k l := by omega
  rw [f1, f2, ← Int.add_mul]
  have p1 : (0 : Int) < 2 ^ (max k l) := by exact_mod_cast Nat.two_pow_pos _
  have e3 : ((a + b) * 2 ^ (max k l)).natAbs = (a + b).natAbs <<< (max k l) := by
    rw [Nat.shiftLeft_eq, Int.natAbs_mul, Int.natAbs_pow]; rfl
  rw [e3]
  refine isInt_write _ _ _ h _ ?_
  by_cases hz : a + b = 0
  · simp [hz]
  · have hne : (a + b) * 2 ^ (max k l) ≠ 0 := Int.mul_ne_zero hz (by omega)
    rw [if_neg hne]
    by_cases c : a + b < 0
    · have := Int.mul_neg_of_neg_of_pos c p1
      simp [this]; omega
    · have := Int.mul_pos (show 0 < a + b by omega) p1
      have c2 : ¬ (a + b) * 2 ^ (max k l) < 0 := by omega
      simp [c2]; omega

/-- The difference. -/
theorem isInt_sub {x y : Nat} {a b : Int} (hx : IsInt x a) (hy : IsInt y b) (h : (a - b).natAbs < 2 ^ 53) : ∃ r, floatBits .sub .f64 x y = some r ∧ IsInt r (a - b) := by
  obtain ⟨t, n, l, hr', hv'⟩ := hy
  obtain ⟨s, m, k, hr, hv⟩ := hx
  have e : double.sub x y = some (double.write (.number (if signed s m ((-(k : Int)) - min (-(k : Int)) (-(l : Int))).toNat + signed (!t) n ((-(l : Int)) - min (-(k : Int)) (-(l : Int))).toNat = 0 then s && !t else signed s m ((-(k : Int)) - min (-(k : Int)) (-(l : Int))).toNat + signed (!t) n ((-(l : Int)) - min (-(k : Int)) (-(l : Int))).toNat < 0) (signed s m ((-(k : Int)) - min (-(k : Int)) (-(l : Int))).toNat + signed (!t) n ((-(l : Int)) - min (-(k : Int)) (-(l : Int))).toNat).natAbs (min (-(k : Int)) (-(l : Int))))) := by
    unfold Format.sub
    rw [hr, hr']
    simp only [Datum.opposite, Datum.sum, Option.map_some]
  refine ⟨_, e, ?_⟩
  have hv2 : (if (!t) = true then -(n : Int) else (n : Int)) = (-b) * 2 ^ l := by
    cases t <;> simp at hv' ⊢ <;> rw [Int.neg_mul, ← hv'] <;> simp
  have e1 : min (-(k : Int)) (-(l : Int)) = -((max k l : Nat) : Int) := by omega
  rw [signed_read hv, signed_read hv2, e1]
  have f1 : k + ((-(k : Int)) - -((max k l : Nat) : Int)).toNat = max k l := by omega
  have f2 : l + ((-(l : Int)) - -((max k l : Nat) : Int)).toNat = max k l := by omega
  rw [f1, f2, ← Int.add_mul, show a + -b = a - b by omega]
  have p1 : (0 : Int) < 2 ^ (max k l) := by exact_mod_cast Nat.two_pow_pos _
  have e3 : ((a - b) * 2 ^ (max k l)).natAbs = (a - b).natAbs <<< (max k l) := by
    rw [Nat.shiftLeft_eq, Int.natAbs_mul, Int.natAbs_pow]; rfl
  rw [e3]
  refine isInt_write _ _ _ h _ ?_
  by_cases hz : a - b = 0
  · simp [hz]
  · have hne : (a - b) * 2 ^ (max k l) ≠ 0 := Int.mul_ne_zero hz (by omega)
    rw [if_neg hne]
    by_cases c : a - b < 0
    · have := Int.mul_neg_of_neg_of_pos c p1
      simp [this]; omega
    · have := Int.mul_pos (show 0 < a - b by omega) p1
      have c2 : ¬ (a - b) * 2 ^ (max k l) < 0 := by omega
      simp [c2]; omega

/-- How such a word stands to the word 0. -/
theorem order_zero {x : Nat} {n : Int} (h : IsInt x n) : double.order x 0 = some (compare n 0) := by
  obtain ⟨s, m, k, hr, hv⟩ := h
  have e0 : double.read 0 = .number false 0 (-(1074 : Nat)) := rfl
  unfold Format.order
  rw [hr, e0]
  simp only [Datum.order]
  rw [signed_read hv, signed_read (s := false) (m := 0) (k := 1074) (n := 0) (by rw [Int.zero_mul]; rfl)]
  rw [Int.zero_mul]
  congr 1
  generalize (k + (-(k : Int) - min (-(k : Int)) (-((1074 : Nat) : Int))).toNat) = u
  have p1 : (0 : Int) < 2 ^ u := by exact_mod_cast Nat.two_pow_pos _
  rcases Int.lt_trichotomy n 0 with c | c | c
  · have := Int.mul_neg_of_neg_of_pos c p1
    rw [Int.compare_eq_lt.2 this, Int.compare_eq_lt.2 c]
  · subst c; simp
  · have := Int.mul_pos c p1
    rw [Int.compare_eq_gt.2 this, Int.compare_eq_gt.2 c]
end Go.Proofs.Ytogbkhlbmchjlaa.Fl
