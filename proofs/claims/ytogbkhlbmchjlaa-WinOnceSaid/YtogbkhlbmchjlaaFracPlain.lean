/- What the functions of package frac compute, as plain functions on integers: no program in sight. -/
namespace Go.Proofs.Ytogbkhlbmchjlaa.Frac

/-- A number is small. -/
def smallB (n : Int) : Bool := decide (-67108864 < n) && decide (n < 67108864)

theorem smallB_no {n : Int} (h : ¬ (-67108864 < n ∧ n < 67108864)) : smallB n = false := by
  unfold smallB
  by_cases c : -67108864 < n
  · have : ¬ n < 67108864 := fun d => h ⟨c, d⟩
    simp [this]
  · simp [c]
theorem smallB_yes {n : Int} (h : -67108864 < n ∧ n < 67108864) : smallB n = true := by unfold smallB; simp [h.1, h.2]
theorem smallB_iff {n : Int} : smallB n = true ↔ -67108864 < n ∧ n < 67108864 := by
  constructor
  · intro h; unfold smallB at h; simpa using h
  · exact smallB_yes

def sgn (n : Int) : Int := if n < 0 then -1 else if 0 < n then 1 else 0

def crossV (a b c d : Int) : Int × Int := if (smallB a && smallB b && smallB c && smallB d) = true then (sgn (a * d - b * c), 0) else (0, 10)

def fits (n : Int) : Bool := decide (-9223372036854775808 ≤ n) && decide (n ≤ 9223372036854775807)

theorem fits_yes {n : Int} (h : -9223372036854775808 ≤ n ∧ n ≤ 9223372036854775807) : fits n = true := by unfold fits; simp [h.1, h.2]
theorem fits_no {n : Int} (h : ¬ (-9223372036854775808 ≤ n ∧ n ≤ 9223372036854775807)) : fits n = false := by
  unfold fits
  by_cases c : -9223372036854775808 ≤ n
  · have : ¬ n ≤ 9223372036854775807 := fun d => h ⟨c, d⟩
    simp; omega
  · simp [c]
def addV (a b : Int) : Int × Int := if fits (a + b) = true then (a + b, 0) else (0, 10)

def mulV (a b : Int) : Int × Int := if fits (a * b) = true then (a * b, 0) else (0, 10)

def clog (n : Nat) : Nat := if n ≤ 1 then 0 else (n - 1).log2 + 1

def upV (n : Int) : Int × Int := if n < 1 then (0, 2) else ((clog n.toNat : Nat), 0)

def downV (n : Int) : Int × Int := if n < 1 then (0, 2) else ((n.toNat.log2 : Nat), 0)

def powB (n : Int) : Bool := decide (0 < n) && decide (((2 ^ n.toNat.log2 : Nat) : Int) = n)

def betweenV (low high at_ steps : Int) : Int × Int :=
  if (decide (steps < 1) || decide (at_ < 0) || decide (steps < at_)) = true then (0, 2)
  else if (smallB low && smallB high && smallB at_ && smallB steps) = true then (low * (steps - at_) + high * at_, 0)
  else (0, 10)

end Go.Proofs.Ytogbkhlbmchjlaa.Frac
