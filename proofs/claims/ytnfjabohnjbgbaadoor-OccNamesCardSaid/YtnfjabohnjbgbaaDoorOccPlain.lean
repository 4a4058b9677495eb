/- Which slots are occupied: plain. -/
import Derived.WalkKit
import Derived.Test.YtnfjabohnjbgbaaDoorRd
namespace Go.Proofs.YtnfjabohnjbgbaaDoor.Occ
open Go.RowKit Go.Proofs.YtnfjabohnjbgbaaDoor

def wd (ws : List Int) (i : Nat) : Nat := (ws.getD i 0).toNat
def occB (ws : List Int) (s : Nat) : Bool := (wd ws (s / 64)).testBit (s % 64)
def U64 (ws : List Int) : Prop := ∀ x ∈ ws, 0 ≤ x ∧ x < 18446744073709551616
def mayB (ws : List Int) (n : Nat) : Bool := decide (ws.length = (n + 63) / 64) && (List.range (64 * ws.length - n)).all (fun i => !occB ws (n + i))
def chkV (ws : List Int) (n : Int) : Int := if n < 0 ∨ 65536 < n then 2 else if mayB ws n.toNat = true then 0 else 8

theorem wd_of {ws : List Int} (h : U64 ws) (i : Nat) : wd ws i < 18446744073709551616 := by
  unfold wd
  by_cases hi : i < ws.length
  · rw [show ws.getD i 0 = ws[i] by simp [List.getD_eq_getElem?_getD, hi]]
    have := h ws[i] (List.getElem_mem _)
    omega
  · rw [show ws.getD i 0 = 0 by simp [List.getD_eq_getElem?_getD, Nat.not_lt.1 hi]]; decide
theorem wd_int {ws : List Int} (h : U64 ws) (i : Nat) : ws.getD i 0 = ((wd ws i : Nat) : Int) := by
  unfold wd
  by_cases hi : i < ws.length
  · rw [show ws.getD i 0 = ws[i] by simp [List.getD_eq_getElem?_getD, hi]]
    have := h ws[i] (List.getElem_mem _)
    omega
  · rw [show ws.getD i 0 = 0 by simp [List.getD_eq_getElem?_getD, Nat.not_lt.1 hi]]; rfl
theorem mayB_iff {ws : List Int} {n : Nat} : mayB ws n = true ↔ ws.length = (n + 63) / 64 ∧ ∀ s, n ≤ s → s < 64 * ws.length → occB ws s = false := by
  unfold mayB
  rw [Bool.and_eq_true, decide_eq_true_eq, List.all_eq_true]
  constructor
  · rintro ⟨h1, h2⟩
    refine ⟨h1, fun s a b => ?_⟩
    have := h2 (s - n) (List.mem_range.2 (by omega))
    rw [show n + (s - n) = s by omega] at this
    simpa using this
  · rintro ⟨h1, h2⟩
    refine ⟨h1, fun i hi => ?_⟩
    have := List.mem_range.1 hi
    rw [h2 (n + i) (by omega) (by omega)]; rfl
theorem high_zero (x k : Nat) (hx : x < 2 ^ 64) : x / 2 ^ k = 0 ↔ ∀ i, k ≤ i → i < 64 → x.testBit i = false := by
  constructor
  · intro h i hi _
    apply Nat.testBit_lt_two_pow
    have h2 : x < 2 ^ k := (Nat.div_eq_zero_iff_lt (Nat.pow_pos (by decide))).1 h
    exact Nat.lt_of_lt_of_le h2 (Nat.pow_le_pow_right (by decide) hi)
  · intro h
    apply Nat.eq_of_testBit_eq
    intro i
    rw [Nat.testBit_div_two_pow, Nat.zero_testBit]
    by_cases hi : i + k < 64
    · exact h _ (by omega) hi
    · exact Nat.testBit_lt_two_pow (Nat.lt_of_lt_of_le hx (Nat.pow_le_pow_right (by decide) (by omega)))
/-- What the program looks at. -/
theorem mayB_last {ws : List Int} (hu : U64 ws) {n : Nat} (hl : ws.length = (n + 63) / 64) : mayB ws n = true ↔ (n % 64 = 0 ∨ wd ws (ws.length - 1) / 2 ^ (n % 64) = 0) := by
  rw [mayB_iff]
  constructor
  · rintro ⟨_, h⟩
    by_cases hz : n % 64 = 0
    · exact .inl hz
    · right
      rw [high_zero _ _ (wd_of hu _)]
      intro i h1 h2
      have := h (64 * (ws.length - 1) + i) (by omega) (by omega)
      unfold occB at this
      rwa [show (64 * (ws.length - 1) + i) / 64 = ws.length - 1 by omega, show (64 * (ws.length - 1) + i) % 64 = i by omega] at this
  · intro h
    refine ⟨hl, fun s h1 h2 => ?_⟩
    rcases h with h | h
    · omega
    · by_cases hz : n % 64 = 0
      · omega
      · rw [high_zero _ _ (wd_of hu _)] at h
        unfold occB
        rw [show s / 64 = ws.length - 1 by omega]
        exact h _ (by omega) (Nat.mod_lt _ (by decide))
theorem testBit_is (x k : Nat) : x.testBit k = decide (x / 2 ^ k % 2 = 1) := by
  rw [Nat.testBit_eq_decide_div_mod_eq]
theorem Rd.word {ws : List Int} {w : World} {a : Option Addr} (hu : U64 ws) (hr : Rd .u64 w a ws) (i : Nat) (hi : i < ws.length) : ∃ b off, a = some ⟨b, off, Option.none⟩ ∧ w.cell? ⟨b, off + i, Option.none⟩ = some (.int .u64 ((wd ws i : Nat) : Int)) := by
  rcases hr with h | ⟨b, off, ha, hlt, hc⟩
  · subst h; simp at hi
  · refine ⟨b, off, ha, ?_⟩
    rw [← wd_int hu]
    exact hc i hi

end Go.Proofs.YtnfjabohnjbgbaaDoor.Occ
