/- What the functions of package conf compute, as plain functions on integers: no program in sight. -/
import Derived.Test.YthgeghdegpgijaaFracPlain2
namespace Go.Proofs.Ythgeghdegpgijaa.Conf
open Go.Proofs.Ythgeghdegpgijaa.Frac

structure Cfg where
  tag : Int
  most : Int
  seg : Int
  least : Int
  den : Int
  ll : Int
  rl : Int
  rh : Int
  lh : Int

def powIn (n from_ to_ : Int) : Bool := decide (from_ ≤ n) && decide (n ≤ to_) && powB n

def sizesB (c : Cfg) : Bool := decide (1 ≤ c.tag) && decide (c.tag ≤ 3) && decide (1 ≤ c.most) && decide (c.most ≤ 16384) && powIn c.seg 4 64 && powIn c.least c.seg 256 && decide (1 ≤ c.den) && decide (c.den ≤ 64)
def partsB (c : Cfg) : Bool := decide (0 ≤ c.ll) && decide (c.ll < c.rl) && decide (c.rl < c.rh) && decide (c.rh < c.lh) && decide (c.lh ≤ c.den)
def restB (c : Cfg) : Bool := decide (c.den ≤ 2 * c.rh) && decide (8 * c.rl ≤ c.den) && decide (2 * c.den ≤ c.rl * c.least)

/-- The capacity for n pairs: at most so many doublings. -/
def takesAux (c : Cfg) (n : Int) : Nat → Int → Int
  | 0, size => size
  | f + 1, size => if c.rh * size < n * c.den then takesAux c n f (2 * size) else size
def takesV (c : Cfg) (n : Int) : Int := takesAux c n 20 c.least

def heightV (c : Cfg) (size : Int) : Int := ((size / c.seg).toNat.log2 : Nat)

/-- What the first three tests say together. -/
structure Cfg.Fine (c : Cfg) : Prop where
  t1 : 1 ≤ c.tag
  t2 : c.tag ≤ 3
  m1 : 1 ≤ c.most
  m2 : c.most ≤ 16384
  s1 : 4 ≤ c.seg
  s2 : c.seg ≤ 64
  s3 : powB c.seg = true
  l1 : c.seg ≤ c.least
  l2 : c.least ≤ 256
  l3 : powB c.least = true
  d1 : 1 ≤ c.den
  d2 : c.den ≤ 64
  p1 : 0 ≤ c.ll
  p2 : c.ll < c.rl
  p3 : c.rl < c.rh
  p4 : c.rh < c.lh
  p5 : c.lh ≤ c.den
  r1 : c.den ≤ 2 * c.rh
  r2 : 8 * c.rl ≤ c.den
  r3 : 2 * c.den ≤ c.rl * c.least

theorem fine_of {c : Cfg} (hs : sizesB c = true) (hp : partsB c = true) (hr : restB c = true) : c.Fine := by
  simp [sizesB, partsB, restB, powIn] at hs hp hr
  obtain ⟨⟨⟨⟨⟨⟨⟨a1, a2⟩, a3⟩, a4⟩, ⟨a5, a6⟩, a7⟩, ⟨a8, a9⟩, a10⟩, a11⟩, a12⟩ := hs
  obtain ⟨⟨⟨⟨b1, b2⟩, b3⟩, b4⟩, b5⟩ := hp
  obtain ⟨⟨c1, c2⟩, c3⟩ := hr
  exact ⟨a1, a2, a3, a4, a5, a6, a7, a8, a9, a10, a11, a12, b1, b2, b3, b4, b5, c1, c2, c3⟩
theorem Cfg.Fine.bools {c : Cfg} (h : c.Fine) : sizesB c = true ∧ partsB c = true ∧ restB c = true := by
  refine ⟨?_, ?_, ?_⟩
  · simp [sizesB, powIn, h.t1, h.t2, h.m1, h.m2, h.s1, h.s2, h.s3, h.l1, h.l2, h.l3, h.d1, h.d2]
  · simp [partsB, h.p1, h.p2, h.p3, h.p4, h.p5]
  · simp [restB, h.r1, h.r2, h.r3]

def okB (c : Cfg) : Bool := sizesB c && partsB c && restB c && decide (c.den * heightV c (takesV c c.most) ≤ (c.lh - c.rh) * c.seg)

theorem takesAux_stop {c : Cfg} {n size : Int} (h : ¬ c.rh * size < n * c.den) (f : Nat) : takesAux c n f size = size := by
  cases f with
  | zero => rfl
  | succ f => rw [takesAux, if_neg h]
theorem takesAux_go {c : Cfg} {n size : Int} (h : c.rh * size < n * c.den) (f : Nat) : takesAux c n (f + 1) size = takesAux c n f (2 * size) := by
  rw [takesAux, if_pos h]

/-- Where a capacity is too small, it is below twice the pairs. -/
theorem small_of_over {c : Cfg} (F : c.Fine) {n size : Int} (hn : 0 ≤ n) (hs : 0 ≤ size) (h : c.rh * size < n * c.den) : size < 2 * n := by
  have h1 : c.den * size ≤ 2 * (c.rh * size) := by
    have := Int.mul_le_mul_of_nonneg_right F.r1 hs
    rw [Int.mul_assoc] at this; exact this
  have h2 : c.den * size < c.den * (2 * n) := by
    have : c.den * (2 * n) = 2 * (n * c.den) := by rw [Int.mul_left_comm, Int.mul_comm c.den n]
    omega
  exact Int.lt_of_mul_lt_mul_left h2 (by have := F.d1; omega)

/-- Under way: so many doublings are left. -/
def TakesUnder (c : Cfg) (n size : Int) : Prop := ∃ f : Nat, takesAux c n f size = takesV c n ∧ 2 * n ≤ size * ((2 ^ f : Nat) : Int) ∧ 4 ≤ size ∧ size ≤ 65536

theorem takesUnder_start {c : Cfg} (F : c.Fine) {n : Int} (hn : n ≤ 16384) : TakesUnder c n c.least := by
  refine ⟨20, rfl, ?_, ?_, ?_⟩
  · have := F.l1; have := F.s1
    show 2 * n ≤ c.least * 1048576
    omega
  · have := F.l1; have := F.s1; omega
  · have := F.l2; omega

theorem takesUnder_go {c : Cfg} (F : c.Fine) {n size : Int} (hn : 0 ≤ n) (hm : n ≤ 16384) (h : TakesUnder c n size) (ho : c.rh * size < n * c.den) : TakesUnder c n (2 * size) ∧ size < 32768 := by
  obtain ⟨f, h1, h2, h3, h4⟩ := h
  have hs := small_of_over F hn (by omega) ho
  cases f with
  | zero => exfalso; simp at h2; omega
  | succ f =>
    refine ⟨⟨f, by rw [← takesAux_go ho]; exact h1, ?_, by omega, by omega⟩, by omega⟩
    rw [Nat.pow_succ, Int.natCast_mul] at h2
    have e : 2 * size * ((2 ^ f : Nat) : Int) = size * (((2 ^ f : Nat) : Int) * ((2 : Nat) : Int)) := by
      rw [Int.mul_comm 2 size, Int.mul_assoc, Int.mul_comm _ ((2 : Nat) : Int)]; rfl
    rw [e]
    exact h2

theorem takesUnder_stop {c : Cfg} {n size : Int} (h : TakesUnder c n size) (ho : ¬ c.rh * size < n * c.den) : size = takesV c n := by
  obtain ⟨f, h1, _⟩ := h
  rw [takesAux_stop ho] at h1; exact h1

theorem takesV_bounds {c : Cfg} (F : c.Fine) {n : Int} (hn : 0 ≤ n) (hm : n ≤ 16384) : 4 ≤ takesV c n ∧ takesV c n ≤ 65536 := by
  have key : ∀ (k : Nat) (size : Int), TakesUnder c n size → (65536 - size).toNat ≤ k → 4 ≤ takesV c n ∧ takesV c n ≤ 65536 := by
    intro k
    induction k with
    | zero =>
      intro size h hk
      by_cases ho : c.rh * size < n * c.den
      · have := (takesUnder_go F hn hm h ho).2; omega
      · rw [← takesUnder_stop h ho]; obtain ⟨f, _, _, h3, h4⟩ := h; exact ⟨h3, h4⟩
    | succ k ih =>
      intro size h hk
      by_cases ho : c.rh * size < n * c.den
      · have h2 := takesUnder_go F hn hm h ho
        obtain ⟨f, _, _, h3, h4⟩ := h
        exact ih (2 * size) h2.1 (by omega)
      · rw [← takesUnder_stop h ho]; obtain ⟨f, _, _, h3, h4⟩ := h; exact ⟨h3, h4⟩
  exact key _ _ (takesUnder_start F hm) (Nat.le_refl _)

/-- A cross product of small numbers, its sign. -/
theorem cross_takes {c : Cfg} (F : c.Fine) {n size : Int} (hn : 0 ≤ n) (hm : n ≤ 16384) (h1 : 4 ≤ size) (h2 : size ≤ 65536) :
    ∃ r, crossV n size c.rh c.den = (r, 0) ∧ ((0 < r ∧ c.rh * size < n * c.den) ∨ (r ≤ 0 ∧ ¬ c.rh * size < n * c.den)) := by
  have := F.p5; have := F.p4; have := F.d2; have := F.d1; have := F.r1
  refine ⟨sgn (n * c.den - size * c.rh), ?_, ?_⟩
  · unfold crossV
    rw [if_pos (by rw [smallB_yes (n := n) (by omega), smallB_yes (n := size) (by omega), smallB_yes (n := c.rh) (by omega), smallB_yes (n := c.den) (by omega)]; rfl)]
  · rw [Int.mul_comm size c.rh]
    unfold sgn
    by_cases h : c.rh * size < n * c.den
    · left; rw [if_neg (by omega), if_pos (by omega)]; exact ⟨by decide, h⟩
    · right; refine ⟨?_, h⟩
      split
      · decide
      · rw [if_neg (by omega)]; decide

def capV (c : Cfg) (n : Int) : Int × Int := if okB c = true then (if n < 0 then (0, 2) else if c.most < n then (0, 4) else (takesV c n, 0)) else (0, 50)
def highV (c : Cfg) (size : Int) : Int × Int := if okB c = true then (if powIn size c.least (takesV c c.most) = true then (heightV c size, 0) else (0, 2)) else (0, 50)
/-- How many slots a window of a height has. -/
def wide (c : Cfg) (h : Int) : Int := c.seg * ((2 ^ h.toNat : Nat) : Int)
def askedV (c : Cfg) (size h n : Int) : Int × Int :=
  if (highV c size).2 = 0 then (if h < 0 ∨ (highV c size).1 < h ∨ n < 0 ∨ wide c h < n then (0, 2) else ((highV c size).1, 0)) else (0, (highV c size).2)
def limitV (high h leaf root : Int) : Int := if 0 < high then leaf * (high - h) + root * h else root
def ofV (c : Cfg) (high : Int) : Int := if 0 < high then c.den * high else c.den
def fullB (c : Cfg) (size h n : Int) : Bool := decide (n * ofV c (heightV c size) ≤ wide c h * limitV (heightV c size) h c.lh c.rh)
def sparseB (c : Cfg) (size h n : Int) : Bool := decide (size = c.least) || decide (wide c h * limitV (heightV c size) h c.ll c.rl ≤ (n + 1) * ofV c (heightV c size))
def fullV (c : Cfg) (size h n : Int) : Bool × Int := if (askedV c size h n).2 = 0 then (fullB c size h n, 0) else (false, (askedV c size h n).2)
def sparseV (c : Cfg) (size h n : Int) : Bool × Int := if (askedV c size h n).2 = 0 then (sparseB c size h n, 0) else (false, (askedV c size h n).2)

theorem okB_fine {c : Cfg} (h : okB c = true) : c.Fine := by
  unfold okB at h
  simp only [Bool.and_eq_true] at h
  exact fine_of h.1.1.1 h.1.1.2 h.1.2

theorem takesAux_le {c : Cfg} (F : c.Fine) {n : Int} (hn : 0 ≤ n) (hm : n ≤ 16384) : takesV c n ≤ 65536 := (takesV_bounds F hn hm).2

/-- Where High answers: what is known of the capacity. -/
theorem high_facts {c : Cfg} {size H : Int} (h : highV c size = (H, 0)) : okB c = true ∧ c.Fine ∧ c.least ≤ size ∧ size ≤ 65536 ∧ powB size = true ∧ H = heightV c size ∧ 0 ≤ H ∧ H ≤ 14 := by
  unfold highV at h
  by_cases ho : okB c = true
  · rw [if_pos ho] at h
    have F := okB_fine ho
    by_cases hp : powIn size c.least (takesV c c.most) = true
    · rw [if_pos hp] at h
      have hH : H = heightV c size := by simpa using (congrArg Prod.fst h).symm
      simp [powIn] at hp
      have ht := takesAux_le F (n := c.most) (by have := F.m1; omega) F.m2
      refine ⟨ho, F, hp.1.1, by omega, hp.2, hH, ?_, ?_⟩
      · rw [hH]; exact Int.natCast_nonneg _
      · rw [hH]
        unfold heightV
        have s1 := F.s1
        have hq : size / c.seg ≤ 16384 := by
          have : size / c.seg ≤ size / 4 := by
            rw [Int.le_ediv_iff_mul_le (by decide)]
            have h0 : 0 ≤ size / c.seg := Int.ediv_nonneg (by have := F.l1; omega) (by omega)
            have h1 : size / c.seg * 4 ≤ size / c.seg * c.seg := Int.mul_le_mul_of_nonneg_left s1 h0
            have h2 : size / c.seg * c.seg ≤ size := Int.ediv_mul_le size (by omega)
            omega
          omega
        have : (size / c.seg).toNat.log2 ≤ 14 := by
          by_cases hz : (size / c.seg).toNat = 0
          · rw [hz]; decide
          · have := (Nat.log2_lt hz (k := 15)).2 (by omega)
            omega
        omega
    · rw [if_neg hp] at h; simp at h
  · rw [if_neg ho] at h; simp at h

theorem highV_cases (c : Cfg) (size : Int) : (∃ e, highV c size = (0, e) ∧ e ≠ 0) ∨ (∃ H, highV c size = (H, 0)) := by
  unfold highV
  by_cases ho : okB c = true
  · rw [if_pos ho]
    by_cases hp : powIn size c.least (takesV c c.most) = true
    · rw [if_pos hp]; exact .inr ⟨_, rfl⟩
    · rw [if_neg hp]; exact .inl ⟨_, rfl, by decide⟩
  · rw [if_neg ho]; exact .inl ⟨_, rfl, by decide⟩

/-- A window is no wider than all. -/
theorem wide_le {c : Cfg} (F : c.Fine) {size : Int} (hl : c.least ≤ size) (hu : size ≤ 65536) {k : Nat} (hk : (k : Int) ≤ heightV c size) : c.seg * ((2 ^ k : Nat) : Int) ≤ size ∧ 1 ≤ c.seg * ((2 ^ k : Nat) : Int) := by
  have s1 := F.s1
  have l1 := F.l1
  have hq : 1 ≤ size / c.seg := by rw [Int.le_ediv_iff_mul_le (by omega)]; omega
  unfold heightV at hk
  have h1 : 2 ^ k ≤ 2 ^ (size / c.seg).toNat.log2 := Nat.pow_le_pow_right (by decide) (by omega)
  have h2 : 2 ^ (size / c.seg).toNat.log2 ≤ (size / c.seg).toNat := Nat.log2_self_le (by omega)
  have h3 : ((2 ^ k : Nat) : Int) ≤ size / c.seg := by omega
  have h4 : c.seg * ((2 ^ k : Nat) : Int) ≤ c.seg * (size / c.seg) := Int.mul_le_mul_of_nonneg_left h3 (by omega)
  have h5 : c.seg * (size / c.seg) ≤ size := Int.mul_ediv_self_le (by omega)
  have h6 := Nat.two_pow_pos k
  have h7 : 1 * 1 ≤ c.seg * ((2 ^ k : Nat) : Int) := Int.mul_le_mul (by omega) (by omega) (by decide) (by omega)
  omega

theorem askedV_err {c : Cfg} {size h n e : Int} (hh : highV c size = (0, e)) (he : e ≠ 0) : askedV c size h n = (0, e) := by unfold askedV; rw [hh]; rw [if_neg he]
theorem askedV_arg {c : Cfg} {size h n H : Int} (hh : highV c size = (H, 0)) (ha : h < 0 ∨ H < h ∨ n < 0 ∨ wide c h < n) : askedV c size h n = (0, 2) := by unfold askedV; rw [hh]; rw [if_pos rfl, if_pos ha]
theorem askedV_ok {c : Cfg} {size h n H : Int} (hh : highV c size = (H, 0)) (ha : ¬ (h < 0 ∨ H < h ∨ n < 0 ∨ wide c h < n)) : askedV c size h n = (H, 0) := by unfold askedV; rw [hh]; rw [if_pos rfl, if_neg ha]

/-- The ways of askedV. -/
theorem askedV_cases (c : Cfg) (size h n : Int) : (∃ e, askedV c size h n = (0, e) ∧ e ≠ 0) ∨ (∃ (H : Int) (k : Nat), askedV c size h n = (H, 0) ∧ highV c size = (H, 0) ∧ h = (k : Int) ∧ (k : Int) ≤ H ∧ 0 ≤ n ∧ n ≤ c.seg * ((2 ^ k : Nat) : Int)) := by
  rcases highV_cases c size with ⟨e, he, hn⟩ | ⟨H, hH⟩
  · exact .inl ⟨e, askedV_err he hn, hn⟩
  · by_cases ha : h < 0 ∨ H < h ∨ n < 0 ∨ wide c h < n
    · exact .inl ⟨2, askedV_arg hH ha, by decide⟩
    · obtain ⟨k, rfl⟩ := Int.eq_ofNat_of_zero_le (show 0 ≤ h by omega)
      refine .inr ⟨H, k, askedV_ok hH ha, hH, rfl, by omega, by omega, ?_⟩
      unfold wide at ha
      rw [Int.toNat_natCast] at ha
      omega

theorem fullV_err {c : Cfg} {size h n e : Int} (ha : askedV c size h n = (0, e)) (he : e ≠ 0) : fullV c size h n = (false, e) := by unfold fullV; rw [ha]; rw [if_neg he]
theorem sparseV_err {c : Cfg} {size h n e : Int} (ha : askedV c size h n = (0, e)) (he : e ≠ 0) : sparseV c size h n = (false, e) := by unfold sparseV; rw [ha]; rw [if_neg he]
theorem fullV_ok {c : Cfg} {size h n H : Int} (ha : askedV c size h n = (H, 0)) : fullV c size h n = (fullB c size h n, 0) := by unfold fullV; rw [ha]; rw [if_pos rfl]
theorem sparseV_ok {c : Cfg} {size h n H : Int} (ha : askedV c size h n = (H, 0)) : sparseV c size h n = (sparseB c size h n, 0) := by unfold sparseV; rw [ha]; rw [if_pos rfl]

/-- Bounds on what density reckons with. -/
theorem limit_bounds {H h leaf root : Int} (hH : 0 ≤ H ∧ H ≤ 14) (hh : 0 ≤ h ∧ h ≤ H) (hl : 0 ≤ leaf ∧ leaf ≤ 64) (hr : 0 ≤ root ∧ root ≤ 64) : 0 ≤ limitV H h leaf root ∧ limitV H h leaf root ≤ 896 ∧ (0 ≤ leaf * (H - h) ∧ leaf * (H - h) ≤ 896) ∧ (0 ≤ root * h ∧ root * h ≤ 896) := by
  have a1 : 0 ≤ leaf * (H - h) := Int.mul_nonneg hl.1 (by omega)
  have a2 : leaf * (H - h) ≤ 64 * (H - h) := Int.mul_le_mul_of_nonneg_right hl.2 (by omega)
  have a3 : 0 ≤ root * h := Int.mul_nonneg hr.1 hh.1
  have a4 : root * h ≤ 64 * h := Int.mul_le_mul_of_nonneg_right hr.2 hh.1
  unfold limitV
  split <;> omega
theorem of_bounds {c : Cfg} (F : c.Fine) {H : Int} (hH : 0 ≤ H ∧ H ≤ 14) : 1 ≤ ofV c H ∧ ofV c H ≤ 896 ∧ 0 ≤ c.den * H ∧ c.den * H ≤ 896 := by
  have d1 := F.d1
  have d2 := F.d2
  have a1 : 0 ≤ c.den * H := Int.mul_nonneg (by omega) hH.1
  have a2 : c.den * H ≤ 64 * H := Int.mul_le_mul_of_nonneg_right d2 hH.1
  have a3 : 1 * H ≤ c.den * H := Int.mul_le_mul_of_nonneg_right d1 hH.1
  unfold ofV
  split <;> omega

end Go.Proofs.Ythgeghdegpgijaa.Conf
