/- One bit of a word turned: plain. -/
import Derived.Test.YtnfjabohnjbgbaaDoorOccPlain
import Derived.Laws.Bits64b
namespace Go.Proofs.YtnfjabohnjbgbaaDoor.Occ
open Go.RowKit Go.Proofs.YtnfjabohnjbgbaaDoor

/-- A word with one bit as is told. -/
def turn (x k : Nat) (b : Bool) : Nat := if x.testBit k = b then x else if b = true then x + 2 ^ k else x - 2 ^ k
def clr (x k : Nat) : Nat := x &&& (18446744073709551615 - 2 ^ k)
theorem mask_bit (k i : Nat) (hk : k < 64) : (18446744073709551615 - 2 ^ k).testBit i = (decide (i < 64) && decide (i ≠ k)) := by
  have h2 : 2 ^ k < 2 ^ 64 := Nat.pow_lt_pow_right (by decide) hk
  rw [show 18446744073709551615 - 2 ^ k = 2 ^ 64 - (2 ^ k + 1) by omega, Nat.testBit_two_pow_sub_succ h2, Nat.testBit_two_pow]
  by_cases h : k = i
  · subst h; simp
  · simp [h, Ne.symm h]
theorem clr_bit (x k i : Nat) (hx : x < 2 ^ 64) (hk : k < 64) : (clr x k).testBit i = (x.testBit i && decide (i ≠ k)) := by
  unfold clr
  rw [Nat.testBit_and, mask_bit k i hk]
  by_cases h : i < 64
  · simp [h]
  · rw [Nat.testBit_lt_two_pow (Nat.lt_of_lt_of_le hx (Nat.pow_le_pow_right (by decide) (Nat.not_lt.1 h)))]; simp
theorem or_add (x k : Nat) (hx : x < 2 ^ 64) (hk : k < 64) (h : x.testBit k = false) : x ||| 2 ^ k = x + 2 ^ k := by
  have h2 : 2 ^ k < 2 ^ 64 := Nat.pow_lt_pow_right (by decide) hk
  have ha : BitVec.ofNat 65 x &&& BitVec.ofNat 65 (2 ^ k) = 0#65 := by
    apply BitVec.eq_of_toNat_eq
    rw [BitVec.toNat_and, BitVec.toNat_ofNat, BitVec.toNat_ofNat, Nat.mod_eq_of_lt (by omega), Nat.mod_eq_of_lt (by omega)]
    apply Nat.eq_of_testBit_eq
    intro i
    rw [Nat.testBit_and, Nat.testBit_two_pow]
    by_cases hi : k = i
    · subst hi; simp [h]
    · simp [hi]
  have hb := congrArg BitVec.toNat (BitVec.add_eq_or_of_and_eq_zero _ _ ha)
  rw [BitVec.toNat_add, BitVec.toNat_or, BitVec.toNat_ofNat, BitVec.toNat_ofNat, Nat.mod_eq_of_lt (a := x) (by omega), Nat.mod_eq_of_lt (a := 2 ^ k) (by omega), Nat.mod_eq_of_lt (by omega)] at hb
  exact hb.symm
theorem clr_or (x k : Nat) (hx : x < 2 ^ 64) (hk : k < 64) : clr x k ||| 2 ^ k = x ||| 2 ^ k := by
  apply Nat.eq_of_testBit_eq
  intro i
  rw [Nat.testBit_or, Nat.testBit_or, clr_bit x k i hx hk, Nat.testBit_two_pow]
  by_cases hi : k = i
  · subst hi; simp
  · simp [hi, Ne.symm hi]
theorem clr_lt (x k : Nat) : clr x k ≤ x := Nat.and_le_left
theorem or_same (x k : Nat) (h : x.testBit k = true) : x ||| 2 ^ k = x := by
  apply Nat.eq_of_testBit_eq
  intro i
  rw [Nat.testBit_or, Nat.testBit_two_pow]
  by_cases hi : k = i
  · subst hi; simp [h]
  · simp [hi]
theorem turn_off (x k : Nat) (hx : x < 2 ^ 64) (hk : k < 64) : turn x k false = clr x k := by
  unfold turn
  by_cases h : x.testBit k = true
  · have h1 := or_add (clr x k) k (Nat.lt_of_le_of_lt (clr_lt x k) hx) hk (by rw [clr_bit x k k hx hk]; simp)
    rw [clr_or x k hx hk, or_same x k h] at h1
    simp [h]
    omega
  · rw [Bool.not_eq_true] at h
    rw [if_pos h]
    apply Nat.eq_of_testBit_eq
    intro i
    rw [clr_bit x k i hx hk]
    by_cases hi : i = k
    · subst hi; simp [h]
    · simp [hi]
theorem turn_on (x k : Nat) (hx : x < 2 ^ 64) (hk : k < 64) : turn x k true = clr x k ||| 2 ^ k := by
  unfold turn
  rw [clr_or x k hx hk]
  by_cases h : x.testBit k = true
  · rw [if_pos h, or_same x k h]
  · rw [if_neg h, if_pos rfl, or_add x k hx hk (by simpa using h)]
theorem turn_lt (x k : Nat) (b : Bool) (hx : x < 2 ^ 64) (hk : k < 64) : turn x k b < 2 ^ 64 := by
  cases b
  · rw [turn_off x k hx hk]; exact Nat.lt_of_le_of_lt (clr_lt x k) hx
  · rw [turn_on x k hx hk]; exact Nat.or_lt_two_pow (Nat.lt_of_le_of_lt (clr_lt x k) hx) (Nat.pow_lt_pow_right (by decide) hk)
theorem turn_bit (x k i : Nat) (b : Bool) (hx : x < 2 ^ 64) (hk : k < 64) : (turn x k b).testBit i = if i = k then b else x.testBit i := by
  cases b
  · rw [turn_off x k hx hk, clr_bit x k i hx hk]
    by_cases hi : i = k <;> simp [hi]
  · rw [turn_on x k hx hk, clr_or x k hx hk, Nat.testBit_or, Nat.testBit_two_pow]
    by_cases hi : i = k
    · simp [hi]
    · simp [hi, Ne.symm hi]
/-- Words with one slot as is told. -/
def putV (ws : List Int) (s : Nat) (b : Bool) : List Int := ws.set (s / 64) ((turn (wd ws (s / 64)) (s % 64) b : Nat) : Int)
theorem putV_length (ws : List Int) (s : Nat) (b : Bool) : (putV ws s b).length = ws.length := by unfold putV; rw [List.length_set]
theorem putV_u64 {ws : List Int} (hu : U64 ws) (s : Nat) (b : Bool) : U64 (putV ws s b) := by
  intro x hx
  unfold putV at hx
  rcases List.mem_or_eq_of_mem_set hx with h | h
  · exact hu x h
  · rw [h]
    have := turn_lt (wd ws (s / 64)) (s % 64) b (wd_of hu _) (Nat.mod_lt _ (by decide))
    omega
theorem putV_occ {ws : List Int} (hu : U64 ws) (s : Nat) (b : Bool) (hs : s < 64 * ws.length) (t : Nat) : occB (putV ws s b) t = if t = s then b else occB ws t := by
  unfold occB
  by_cases h : t / 64 = s / 64
  · have e : wd (putV ws s b) (t / 64) = turn (wd ws (s / 64)) (s % 64) b := by
      unfold putV
      rw [h]; unfold wd
      have : s / 64 < ws.length := by omega
      simp [List.getD_eq_getElem?_getD, this]
    rw [e, turn_bit _ _ _ _ (wd_of hu _) (Nat.mod_lt _ (by decide)), h]
    by_cases hm : t % 64 = s % 64
    · rw [if_pos hm, if_pos (by omega)]
    · rw [if_neg hm, if_neg (by intro g; exact hm (by rw [g]))]
  · have e : wd (putV ws s b) (t / 64) = wd ws (t / 64) := by
      unfold putV wd
      simp [List.getD_eq_getElem?_getD, List.getElem?_set, Ne.symm h]
    rw [e, if_neg (by intro g; exact h (by rw [g]))]

end Go.Proofs.YtnfjabohnjbgbaaDoor.Occ
