/- Contracts of slices.Clone and slices.Equal. Contracts of package occ and of the document's answer: Same; the document's Has. One bit of a word turned: plain. Contracts of package occ: With. Contracts of package occ: With. Contracts of the document's answer: Put, With. Lists of the bits of words: plain. Contracts of the document's answer: Places. Contracts of the document's answer: Count, Nth, Next, Last. Contracts of package occ: the words of a part, without the bits of others. Contracts of package occ: the iterator of a part's words. -/
import Derived.Test.YtiemfklonhlnnaaMaa
import Derived.Test.YtiemfklonhlnnaaShelf
import Derived.Laws.Bits64b
import Derived.Laws.OwnMore
import Derived.BigRegion
import Derived.Lib.TrailingZeros
set_option linter.unusedSimpArgs false
set_option linter.unusedVariables false
namespace Go.Proofs.Ytiemfklonhlnnaa
open Go.RowKit Go.Shelf

theorem numsK_one (k : IntKind) (zs : List Int) : ∀ u ∈ numsK k zs, u.oneCell' = true := by
  intro u hu
  unfold numsK at hu
  obtain ⟨z, _, rfl⟩ := List.mem_map.1 hu
  rfl
/-- A slice's address that is a row's beginning, or none. -/
def Plain (a : Option Addr) : Prop := a = Option.none ∨ ∃ b off, a = some ⟨b, off, Option.none⟩
theorem Plain.of_rd {k : IntKind} {w : World} {a : Option Addr} {zs : List Int} (h : Rd k w a zs) (hz : zs ≠ []) : Plain a := by
  rcases h with h | ⟨b, off, ha, _⟩
  · exact absurd h hz
  · exact .inr ⟨b, off, ha⟩
theorem Plain.of_owns {w : World} {base : Nat} {e : TypeId} {a : Option Addr} {n m c : Nat} {xs : List Value} (h : w.ownsRow base e 1 (.slice a n c) m xs) : Plain a := by
  rcases h.2 with ⟨h1, _⟩ | ⟨g, cap, cur, h1, _⟩
  · simp only [Value.slice.injEq] at h1; exact .inl h1.1
  · simp only [Value.slice.injEq] at h1; exact .inr ⟨_, _, h1.1⟩
theorem rd_none {k : IntKind} {w : World} {zs : List Int} (h : Rd k w Option.none zs) : zs = [] := by
  rcases h with h | ⟨b, off, ha, _⟩
  · exact h
  · cases ha

theorem infoU : (Try.prog.info? 27).map (fun i => (i.zero, i.size, i.bytes)) = some (some (.int .u64 0), 1, 8) := by kernel_rfl
theorem cloneU_some (b off ca : Nat) (zs : List Int) (w : World) (hr : Rd .u64 w (some ⟨b, off, Option.none⟩) zs) (hl : zs.length ≤ 100000) :
    Calls Try.prog 76 #[.slice (some ⟨b, off, Option.none⟩) zs.length ca] w fun e w' => ∃ v', e = .returned v' ∧ w'.ownsRow w.heap.size 27 1 v' zs.length (numsK .u64 zs) ∧ Below w.heap.size w w' := by
  obtain ⟨i0, hi, hz0, hz1, hz2⟩ := info_parts infoU
  have hcc : ∀ j u, (numsK .u64 zs)[j]? = some u → w.cell? ⟨b, off + j, Option.none⟩ = some u := by
    intro j u hj
    rcases hr with h | ⟨b', o', ha, _, hc⟩
    · subst h; simp [numsK] at hj
    · cases ha
      have hlt : j < zs.length := by
        rcases Nat.lt_or_ge j zs.length with h | h
        · exact h
        · rw [List.getElem?_eq_none (by rw [numsK_length]; exact h)] at hj; cases hj
      rw [numsK_get hlt] at hj
      rw [hc j hlt]; exact hj
  have H : Calls Try.prog 76 #[.slice (some ⟨b, off, Option.none⟩) zs.length ca] w fun e w' => ∃ v', e = .returned v' ∧ w'.ownsRow w.heap.size 27 1 v' zs.length (numsK .u64 zs) ∧ v' ≠ .slice Option.none 0 0 ∧ Below w.heap.size w w' := by
    first
      | exact Try.slices_Clone i0 (.int .u64 0) 1 8 hi hz0 hz1 hz2 rfl (by decide) Try.sizeOf27 b off zs.length ca (numsK .u64 zs) w (by rw [numsK_length]; omega) (by unfold maxLen; omega) (by omega) hcc (numsK_one _ zs)
      | exact Try.slices_Clone_f76 i0 (.int .u64 0) 1 8 hi hz0 hz1 hz2 rfl (by decide) Try.sizeOf27 b off zs.length ca (numsK .u64 zs) w (by rw [numsK_length]; omega) (by unfold maxLen; omega) (by omega) hcc (numsK_one _ zs)
  exact H.mono fun e w' ⟨v', h1, h2, _, h4⟩ => ⟨v', h1, h2, h4⟩
theorem cloneU_none (n ca : Nat) (w : World) : Calls Try.prog 76 #[.slice Option.none n ca] w fun e w' => e = .returned (.slice Option.none 0 0) ∧ w' = w := by
  first
    | exact Try.slices_Clone_nil n ca w
    | exact Try.slices_Clone_nil_f76 n ca w
theorem cloneU_any (a : Option Addr) (ca : Nat) (zs : List Int) (w : World) (hr : Rd .u64 w a zs) (hp : Plain a) (hl : zs.length ≤ 100000) :
    Calls Try.prog 76 #[.slice a zs.length ca] w fun e w' => ∃ v', e = .returned v' ∧ w'.ownsRow w.heap.size 27 1 v' zs.length (numsK .u64 zs) ∧ Below w.heap.size w w' := by
  rcases hp with rfl | ⟨b, off, rfl⟩
  · have hz := rd_none hr
    subst hz
    refine (cloneU_none _ ca w).mono ?_
    rintro e w' ⟨rfl, rfl⟩
    exact ⟨_, rfl, World.ownsRow_nil _ _ _ _, Below.refl _ _⟩
  · exact cloneU_some b off ca zs w hr hl

theorem infoK : (Try.prog.info? 2).map (fun i => (i.zero, i.size, i.bytes)) = some (some (.int .i64 0), 1, 8) := by kernel_rfl
theorem cloneK_some (b off ca : Nat) (zs : List Int) (w : World) (hr : Rd .i64 w (some ⟨b, off, Option.none⟩) zs) (hl : zs.length ≤ 100000) :
    Calls Try.prog 77 #[.slice (some ⟨b, off, Option.none⟩) zs.length ca] w fun e w' => ∃ v', e = .returned v' ∧ w'.ownsRow w.heap.size 2 1 v' zs.length (numsK .i64 zs) ∧ Below w.heap.size w w' := by
  obtain ⟨i0, hi, hz0, hz1, hz2⟩ := info_parts infoK
  have hcc : ∀ j u, (numsK .i64 zs)[j]? = some u → w.cell? ⟨b, off + j, Option.none⟩ = some u := by
    intro j u hj
    rcases hr with h | ⟨b', o', ha, _, hc⟩
    · subst h; simp [numsK] at hj
    · cases ha
      have hlt : j < zs.length := by
        rcases Nat.lt_or_ge j zs.length with h | h
        · exact h
        · rw [List.getElem?_eq_none (by rw [numsK_length]; exact h)] at hj; cases hj
      rw [numsK_get hlt] at hj
      rw [hc j hlt]; exact hj
  have H : Calls Try.prog 77 #[.slice (some ⟨b, off, Option.none⟩) zs.length ca] w fun e w' => ∃ v', e = .returned v' ∧ w'.ownsRow w.heap.size 2 1 v' zs.length (numsK .i64 zs) ∧ v' ≠ .slice Option.none 0 0 ∧ Below w.heap.size w w' := by
    first
      | exact Try.slices_Clone i0 (.int .i64 0) 1 8 hi hz0 hz1 hz2 rfl (by decide) Try.sizeOf2 b off zs.length ca (numsK .i64 zs) w (by rw [numsK_length]; omega) (by unfold maxLen; omega) (by omega) hcc (numsK_one _ zs)
      | exact Try.slices_Clone_f77 i0 (.int .i64 0) 1 8 hi hz0 hz1 hz2 rfl (by decide) Try.sizeOf2 b off zs.length ca (numsK .i64 zs) w (by rw [numsK_length]; omega) (by unfold maxLen; omega) (by omega) hcc (numsK_one _ zs)
  exact H.mono fun e w' ⟨v', h1, h2, _, h4⟩ => ⟨v', h1, h2, h4⟩
theorem cloneK_none (n ca : Nat) (w : World) : Calls Try.prog 77 #[.slice Option.none n ca] w fun e w' => e = .returned (.slice Option.none 0 0) ∧ w' = w := by
  first
    | exact Try.slices_Clone_nil n ca w
    | exact Try.slices_Clone_nil_f77 n ca w
theorem cloneK_any (a : Option Addr) (ca : Nat) (zs : List Int) (w : World) (hr : Rd .i64 w a zs) (hp : Plain a) (hl : zs.length ≤ 100000) :
    Calls Try.prog 77 #[.slice a zs.length ca] w fun e w' => ∃ v', e = .returned v' ∧ w'.ownsRow w.heap.size 2 1 v' zs.length (numsK .i64 zs) ∧ Below w.heap.size w w' := by
  rcases hp with rfl | ⟨b, off, rfl⟩
  · have hz := rd_none hr
    subst hz
    refine (cloneK_none _ ca w).mono ?_
    rintro e w' ⟨rfl, rfl⟩
    exact ⟨_, rfl, World.ownsRow_nil _ _ _ _, Below.refl _ _⟩
  · exact cloneK_some b off ca zs w hr hl

theorem infoI : (Try.prog.info? 3).map (fun i => (i.zero, i.size, i.bytes)) = some (some (.int .i64 0), 1, 8) := by kernel_rfl
theorem cloneI_some (b off ca : Nat) (zs : List Int) (w : World) (hr : Rd .i64 w (some ⟨b, off, Option.none⟩) zs) (hl : zs.length ≤ 100000) :
    Calls Try.prog 78 #[.slice (some ⟨b, off, Option.none⟩) zs.length ca] w fun e w' => ∃ v', e = .returned v' ∧ w'.ownsRow w.heap.size 3 1 v' zs.length (numsK .i64 zs) ∧ Below w.heap.size w w' := by
  obtain ⟨i0, hi, hz0, hz1, hz2⟩ := info_parts infoI
  have hcc : ∀ j u, (numsK .i64 zs)[j]? = some u → w.cell? ⟨b, off + j, Option.none⟩ = some u := by
    intro j u hj
    rcases hr with h | ⟨b', o', ha, _, hc⟩
    · subst h; simp [numsK] at hj
    · cases ha
      have hlt : j < zs.length := by
        rcases Nat.lt_or_ge j zs.length with h | h
        · exact h
        · rw [List.getElem?_eq_none (by rw [numsK_length]; exact h)] at hj; cases hj
      rw [numsK_get hlt] at hj
      rw [hc j hlt]; exact hj
  have H : Calls Try.prog 78 #[.slice (some ⟨b, off, Option.none⟩) zs.length ca] w fun e w' => ∃ v', e = .returned v' ∧ w'.ownsRow w.heap.size 3 1 v' zs.length (numsK .i64 zs) ∧ v' ≠ .slice Option.none 0 0 ∧ Below w.heap.size w w' := by
    first
      | exact Try.slices_Clone i0 (.int .i64 0) 1 8 hi hz0 hz1 hz2 rfl (by decide) Try.sizeOf3 b off zs.length ca (numsK .i64 zs) w (by rw [numsK_length]; omega) (by unfold maxLen; omega) (by omega) hcc (numsK_one _ zs)
      | exact Try.slices_Clone_f78 i0 (.int .i64 0) 1 8 hi hz0 hz1 hz2 rfl (by decide) Try.sizeOf3 b off zs.length ca (numsK .i64 zs) w (by rw [numsK_length]; omega) (by unfold maxLen; omega) (by omega) hcc (numsK_one _ zs)
  exact H.mono fun e w' ⟨v', h1, h2, _, h4⟩ => ⟨v', h1, h2, h4⟩
theorem cloneI_none (n ca : Nat) (w : World) : Calls Try.prog 78 #[.slice Option.none n ca] w fun e w' => e = .returned (.slice Option.none 0 0) ∧ w' = w := by
  first
    | exact Try.slices_Clone_nil n ca w
    | exact Try.slices_Clone_nil_f78 n ca w
theorem cloneI_any (a : Option Addr) (ca : Nat) (zs : List Int) (w : World) (hr : Rd .i64 w a zs) (hp : Plain a) (hl : zs.length ≤ 100000) :
    Calls Try.prog 78 #[.slice a zs.length ca] w fun e w' => ∃ v', e = .returned v' ∧ w'.ownsRow w.heap.size 3 1 v' zs.length (numsK .i64 zs) ∧ Below w.heap.size w w' := by
  rcases hp with rfl | ⟨b, off, rfl⟩
  · have hz := rd_none hr
    subst hz
    refine (cloneI_none _ ca w).mono ?_
    rintro e w' ⟨rfl, rfl⟩
    exact ⟨_, rfl, World.ownsRow_nil _ _ _ _, Below.refl _ _⟩
  · exact cloneI_some b off ca zs w hr hl

end Go.Proofs.Ytiemfklonhlnnaa

namespace Go.Proofs.Ytiemfklonhlnnaa.Occ
open Go.RowKit Go.Shelf Go.Proofs.Ytiemfklonhlnnaa

end Go.Proofs.Ytiemfklonhlnnaa.Occ

namespace Go.Proofs.Ytiemfklonhlnnaa.Occ
open Go.RowKit Go.Proofs.Ytiemfklonhlnnaa

/-- A word with one bit as is told. -/
def turn (x k : Nat) (b : Bool) : Nat := if x.testBit k = b then x else if b = true then x + 2 ^ k else x - 2 ^ k
def clr (x k : Nat) : Nat := x &&& (18446744073709551615 - 2 ^ k)
theorem mask_bit (k i : Nat) (hk : k < 64) : (18446744073709551615 - 2 ^ k).testBit i = (decide (i < 64) && decide (i ≠ k)) := by
  have h2 : 2 ^ k < 2 ^ 64 := Nat.pow_lt_pow_right (by decide) hk
  rw [show 18446744073709551615 - 2 ^ k = 2 ^ 64 - (2 ^ k + 1) by omega, Nat.testBit_two_pow_sub_succ h2, Nat.testBit_two_pow]
  by_cases h : k = i
  · subst h; simp
  · simp [h, Ne.symm h]
theorem clr_bit (x k i : Nat) (hx : x < 2 ^ 64) (hk : k < 64) : (clr x k).testBit i = (x.testBit i && decide (i ≠ k)) := by
  unfold clr
  rw [Nat.testBit_and, mask_bit k i hk]
  by_cases h : i < 64
  · simp [h]
  · rw [Nat.testBit_lt_two_pow (Nat.lt_of_lt_of_le hx (Nat.pow_le_pow_right (by decide) (Nat.not_lt.1 h)))]; simp
theorem or_add (x k : Nat) (hx : x < 2 ^ 64) (hk : k < 64) (h : x.testBit k = false) : x ||| 2 ^ k = x + 2 ^ k := by
  have h2 : 2 ^ k < 2 ^ 64 := Nat.pow_lt_pow_right (by decide) hk
  have ha : BitVec.ofNat 65 x &&& BitVec.ofNat 65 (2 ^ k) = 0#65 := by
    apply BitVec.eq_of_toNat_eq
    rw [BitVec.toNat_and, BitVec.toNat_ofNat, BitVec.toNat_ofNat, Nat.mod_eq_of_lt (by omega), Nat.mod_eq_of_lt (by omega)]
    apply Nat.eq_of_testBit_eq
    intro i
    rw [Nat.testBit_and, Nat.testBit_two_pow]
    by_cases hi : k = i
    · subst hi; simp [h]
    · simp [hi]
  have hb := congrArg BitVec.toNat (BitVec.add_eq_or_of_and_eq_zero _ _ ha)
  rw [BitVec.toNat_add, BitVec.toNat_or, BitVec.toNat_ofNat, BitVec.toNat_ofNat, Nat.mod_eq_of_lt (a := x) (by omega), Nat.mod_eq_of_lt (a := 2 ^ k) (by omega), Nat.mod_eq_of_lt (by omega)] at hb
  exact hb.symm
theorem clr_or (x k : Nat) (hx : x < 2 ^ 64) (hk : k < 64) : clr x k ||| 2 ^ k = x ||| 2 ^ k := by
  apply Nat.eq_of_testBit_eq
  intro i
  rw [Nat.testBit_or, Nat.testBit_or, clr_bit x k i hx hk, Nat.testBit_two_pow]
  by_cases hi : k = i
  · subst hi; simp
  · simp [hi, Ne.symm hi]
theorem clr_lt (x k : Nat) : clr x k ≤ x := Nat.and_le_left
theorem or_same (x k : Nat) (h : x.testBit k = true) : x ||| 2 ^ k = x := by
  apply Nat.eq_of_testBit_eq
  intro i
  rw [Nat.testBit_or, Nat.testBit_two_pow]
  by_cases hi : k = i
  · subst hi; simp [h]
  · simp [hi]
theorem turn_off (x k : Nat) (hx : x < 2 ^ 64) (hk : k < 64) : turn x k false = clr x k := by
  unfold turn
  by_cases h : x.testBit k = true
  · have h1 := or_add (clr x k) k (Nat.lt_of_le_of_lt (clr_lt x k) hx) hk (by rw [clr_bit x k k hx hk]; simp)
    rw [clr_or x k hx hk, or_same x k h] at h1
    simp [h]
    omega
  · rw [Bool.not_eq_true] at h
    rw [if_pos h]
    apply Nat.eq_of_testBit_eq
    intro i
    rw [clr_bit x k i hx hk]
    by_cases hi : i = k
    · subst hi; simp [h]
    · simp [hi]
theorem turn_on (x k : Nat) (hx : x < 2 ^ 64) (hk : k < 64) : turn x k true = clr x k ||| 2 ^ k := by
  unfold turn
  rw [clr_or x k hx hk]
  by_cases h : x.testBit k = true
  · rw [if_pos h, or_same x k h]
  · rw [if_neg h, if_pos rfl, or_add x k hx hk (by simpa using h)]
theorem turn_lt (x k : Nat) (b : Bool) (hx : x < 2 ^ 64) (hk : k < 64) : turn x k b < 2 ^ 64 := by
  cases b
  · rw [turn_off x k hx hk]; exact Nat.lt_of_le_of_lt (clr_lt x k) hx
  · rw [turn_on x k hx hk]; exact Nat.or_lt_two_pow (Nat.lt_of_le_of_lt (clr_lt x k) hx) (Nat.pow_lt_pow_right (by decide) hk)
theorem turn_bit (x k i : Nat) (b : Bool) (hx : x < 2 ^ 64) (hk : k < 64) : (turn x k b).testBit i = if i = k then b else x.testBit i := by
  cases b
  · rw [turn_off x k hx hk, clr_bit x k i hx hk]
    by_cases hi : i = k <;> simp [hi]
  · rw [turn_on x k hx hk, clr_or x k hx hk, Nat.testBit_or, Nat.testBit_two_pow]
    by_cases hi : i = k
    · simp [hi]
    · simp [hi, Ne.symm hi]
/-- Words with one slot as is told. -/
def putV (ws : List Int) (s : Nat) (b : Bool) : List Int := ws.set (s / 64) ((turn (wd ws (s / 64)) (s % 64) b : Nat) : Int)
theorem putV_length (ws : List Int) (s : Nat) (b : Bool) : (putV ws s b).length = ws.length := by unfold putV; rw [List.length_set]
theorem putV_u64 {ws : List Int} (hu : U64 ws) (s : Nat) (b : Bool) : U64 (putV ws s b) := by
  intro x hx
  unfold putV at hx
  rcases List.mem_or_eq_of_mem_set hx with h | h
  · exact hu x h
  · rw [h]
    have := turn_lt (wd ws (s / 64)) (s % 64) b (wd_of hu _) (Nat.mod_lt _ (by decide))
    omega
theorem putV_occ {ws : List Int} (hu : U64 ws) (s : Nat) (b : Bool) (hs : s < 64 * ws.length) (t : Nat) : occB (putV ws s b) t = if t = s then b else occB ws t := by
  unfold occB
  by_cases h : t / 64 = s / 64
  · have e : wd (putV ws s b) (t / 64) = turn (wd ws (s / 64)) (s % 64) b := by
      unfold putV
      rw [h]; unfold wd
      have : s / 64 < ws.length := by omega
      simp [List.getD_eq_getElem?_getD, this]
    rw [e, turn_bit _ _ _ _ (wd_of hu _) (Nat.mod_lt _ (by decide)), h]
    by_cases hm : t % 64 = s % 64
    · rw [if_pos hm, if_pos (by omega)]
    · rw [if_neg hm, if_neg (by intro g; exact hm (by rw [g]))]
  · have e : wd (putV ws s b) (t / 64) = wd ws (t / 64) := by
      unfold putV wd
      simp [List.getD_eq_getElem?_getD, List.getElem?_set, Ne.symm h]
    rw [e, if_neg (by intro g; exact h (by rw [g]))]

end Go.Proofs.Ytiemfklonhlnnaa.Occ

namespace Go.Proofs.Ytiemfklonhlnnaa.Occ
open Go.RowKit Go.Shelf Go.Proofs.Ytiemfklonhlnnaa

def cells (zs : List Int) : List Value := zs.map (Value.int .u64)
def AnsW (V : List Int × Int) (w : World) (e : Ending) (w' : World) : Prop :=
  ∃ v, e = .returned (.tuple #[v, .int .i64 V.2]) ∧ w'.ownsRow w.heap.size 27 1 v V.1.length (cells V.1) ∧ Below w.heap.size w w'
def withV (ws : List Int) (n s : Int) (b : Bool) : List Int × Int := if askV ws n (atB n s) = 0 then (putV ws s.toNat b, 0) else ([], askV ws n (atB n s))
theorem infoW : (Try.prog.info? 27).map (fun i => (i.zero, i.size, i.bytes)) = some (some (.int .u64 0), 1, 8) := by kernel_rfl
theorem cells_length (zs : List Int) : (cells zs).length = zs.length := by unfold cells; simp
theorem cells_one (zs : List Int) : ∀ u ∈ cells zs, u.oneCell' = true := by
  intro u hu
  unfold cells at hu
  obtain ⟨z, _, rfl⟩ := List.mem_map.1 hu
  rfl
theorem cells_get (zs : List Int) (i : Nat) (h : i < zs.length) : (cells zs)[i]? = some (.int .u64 (zs.getD i 0)) := by
  unfold cells; simp [List.getD_eq_getElem?_getD, h]
theorem cells_set (zs : List Int) (i : Nat) (x : Int) : cells (zs.set i x) = (cells zs).set i (.int .u64 x) := by unfold cells; rw [List.map_set]
theorem clone_any (b off ca : Nat) (zs : List Int) (w : World) (hr : Rd .u64 w (some ⟨b, off, Option.none⟩) zs) (hl : zs.length ≤ 100000) :
    Calls Try.prog 76 #[.slice (some ⟨b, off, Option.none⟩) zs.length ca] w fun e w' => ∃ v', e = .returned v' ∧ w'.ownsRow w.heap.size 27 1 v' zs.length (cells zs) ∧ Below w.heap.size w w' := cloneU_some b off ca zs w hr hl
theorem owns_form {w : World} {base : Nat} {e : TypeId} {v : Value} {n : Nat} {xs : List Value} (h : w.ownsRow base e 1 v n xs) (hn : 0 < n) : ∃ g c, v = .slice (some ⟨g, 0, Option.none⟩) n c ∧ base ≤ g ∧ n ≤ c := by
  rcases h.2 with ⟨_, h0⟩ | ⟨g, cap, cur, hv, hg, _, hc, _⟩
  · have := h.1; rw [h0] at this; simp at this; omega
  · exact ⟨g, cap, hv, hg, hc⟩

end Go.Proofs.Ytiemfklonhlnnaa.Occ

namespace Go.Proofs.Ytiemfklonhlnnaa.Occ
open Go.RowKit Go.Shelf Go.Proofs.Ytiemfklonhlnnaa

theorem bits_andNot_u64_nat (a b : Nat) (ha : a < 18446744073709551616) (hb : b < 18446744073709551616) : bits .andNot .u64 (a : Int) (b : Int) = ((a &&& (18446744073709551615 - b) : Nat) : Int) := by
  have hx : a &&& (18446744073709551615 - b) < 18446744073709551616 := Nat.lt_of_le_of_lt Nat.and_le_left ha
  have e1 : (BitVec.ofInt 64 (a : Int)).toNat = a := by rw [BitVec.ofInt_natCast, BitVec.toNat_ofNat]; exact Nat.mod_eq_of_lt (by omega)
  have e2 : (BitVec.ofInt 64 (b : Int)).toNat = b := by rw [BitVec.ofInt_natCast, BitVec.toNat_ofNat]; exact Nat.mod_eq_of_lt (by omega)
  show IntKind.u64.wrap ((BitVec.ofInt 64 (a : Int) &&& ~~~ BitVec.ofInt 64 (b : Int)).toNat : Int) = _
  rw [BitVec.toNat_and, BitVec.toNat_not, e1, e2, show 2 ^ 64 - 1 - b = 18446744073709551615 - b from rfl, IntKind.wrap_u64]
  omega

end Go.Proofs.Ytiemfklonhlnnaa.Occ

namespace Go.Proofs.Ytiemfklonhlnnaa.Occ
open Go.RowKit Go.Shelf Go.Proofs.Ytiemfklonhlnnaa

theorem putV_same {ws : List Int} (hu : U64 ws) {s : Nat} {b : Bool} (h : occB ws s = b) (hs : s < 64 * ws.length) : putV ws s b = ws := by
  unfold occB at h
  unfold putV turn
  rw [if_pos h, ← wd_int hu]
  apply List.ext_getElem
  · rw [List.length_set]
  · intro i h1 h2
    rw [List.getElem_set]
    by_cases hi : s / 64 = i
    · subst hi; simp [List.getD_eq_getElem?_getD, h2]
    · simp [hi]
theorem putV_other {ws : List Int} {s : Nat} {b : Bool} (h : occB ws s ≠ b) : putV ws s b = ws.set (s / 64) ((if b = true then wd ws (s / 64) + 2 ^ (s % 64) else wd ws (s / 64) - 2 ^ (s % 64) : Nat) : Int) := by
  unfold occB at h
  unfold putV turn
  rw [if_neg h]
theorem bit_le (x k : Nat) (h : x.testBit k = true) : 2 ^ k ≤ x := Nat.ge_two_pow_of_testBit h

end Go.Proofs.Ytiemfklonhlnnaa.Occ

namespace Go.Proofs.Ytiemfklonhlnnaa.Occ
open Go.RowKit Go.Proofs.Ytiemfklonhlnnaa

/-- The slots that are occupied, from f on, k of them looked at. -/
def occs (ws : List Int) (f k : Nat) : List Nat := (List.range' f k).filter (occB ws)
theorem occs_succ (ws : List Int) (f k : Nat) : occs ws f (k + 1) = occs ws f k ++ if occB ws (f + k) = true then [f + k] else [] := by
  unfold occs
  rw [List.range'_concat, List.filter_append, Nat.one_mul]
  congr 1
  by_cases h : occB ws (f + k) = true
  · simp [h]
  · simp [h]
theorem occs_length (ws : List Int) (f k : Nat) : (occs ws f k).length ≤ k := by
  have := List.length_filter_le (occB ws) (List.range' f k)
  rw [List.length_range'] at this
  exact this
theorem occs_add (ws : List Int) (f a b : Nat) : occs ws f (a + b) = occs ws f a ++ occs ws (f + a) b := by
  unfold occs; rw [← List.range'_append_1, List.filter_append]
theorem occs_mem {ws : List Int} {f k s : Nat} : s ∈ occs ws f k ↔ f ≤ s ∧ s < f + k ∧ occB ws s = true := by
  unfold occs; rw [List.mem_filter, List.mem_range'_1, and_assoc]

/-- The slots of a word's bits. -/
def bl (x f : Nat) : List Nat := ((List.range 64).filter (fun i => x.testBit i)).map (fun i => f + i)
theorem pop_count (n x : Nat) : Lib.popAux n x = ((List.range n).filter (fun i => x.testBit i)).length := by
  induction n generalizing x with
  | zero => rfl
  | succ n ih =>
    rw [List.range_succ_eq_map, List.filter_cons, List.filter_map]
    have e : (fun i => x.testBit i) ∘ Nat.succ = fun i => (x / 2).testBit i := by funext i; simp [Nat.testBit_succ]
    rw [e]
    show x % 2 + Lib.popAux n (x / 2) = _
    rw [ih (x / 2)]
    rw [Nat.testBit_zero]
    by_cases h : x % 2 = 1
    · simp [h]; omega
    · simp [h]; omega
theorem bl_length (x f : Nat) : (bl x f).length = Lib.popAux 64 x := by unfold bl; rw [List.length_map, pop_count]
theorem bl_zero (f : Nat) : bl 0 f = [] := by unfold bl; simp

def cutN (x l h : Nat) : Nat := (x / 2 ^ l * 2 ^ l) * 2 ^ h % 18446744073709551616 / 2 ^ h
theorem cutN_bit (x l h i : Nat) : (cutN x l h).testBit i = (decide (l ≤ i) && decide (i + h < 64) && x.testBit i) := by
  unfold cutN
  rw [show 18446744073709551616 = 2 ^ 64 by decide, Nat.testBit_div_two_pow, Nat.testBit_mod_two_pow, Nat.testBit_mul_two_pow, Nat.testBit_mul_two_pow, Nat.testBit_div_two_pow]
  by_cases h1 : l ≤ i
  · rw [show i + h - h = i by omega, show i - l + l = i by omega]
    by_cases h2 : i + h < 64 <;> simp [h1, h2]
  · rw [show i + h - h = i by omega]
    simp [h1]
theorem cutN_lt (x l h : Nat) (hx : x < 18446744073709551616) : cutN x l h < 18446744073709551616 :=
  Nat.lt_of_le_of_lt (Nat.div_le_self _ _) (Nat.mod_lt _ (by decide))

theorem filter_head (p q : Nat → Bool) (c n : Nat) (hc : c < n) (h1 : ∀ i, i < c → p i = false) (h2 : p c = true) (h3 : ∀ i, q i = (p i && decide (i ≠ c))) : (List.range n).filter p = c :: (List.range n).filter q := by
  obtain ⟨d, rfl⟩ : ∃ d, n = c + (d + 1) := ⟨n - c - 1, by omega⟩
  rw [List.range_eq_range', ← List.range'_append_1, List.filter_append, List.filter_append, Nat.zero_add, List.range'_succ]
  have e1 : (List.range' 0 c).filter p = [] := by
    rw [List.filter_eq_nil_iff]; intro i hi; have := List.mem_range'_1.1 hi; rw [h1 i (by omega)]; simp
  have e2 : (List.range' 0 c).filter q = [] := by
    rw [List.filter_eq_nil_iff]; intro i hi; have := List.mem_range'_1.1 hi; rw [h3, h1 i (by omega)]; simp
  rw [e1, e2, List.filter_cons_of_pos h2, List.filter_cons_of_neg (by rw [h3]; simp)]
  simp only [List.nil_append]
  congr 1
  apply List.filter_congr
  intro i hi
  have := List.mem_range'_1.1 hi
  rw [h3, decide_eq_true (by omega), Bool.and_true]
theorem filter_last (p : Nat → Bool) (b n : Nat) (hb : b < n) (h1 : p b = true) (h2 : ∀ i, b < i → p i = false) : (List.range n).filter p = (List.range b).filter p ++ [b] := by
  obtain ⟨d, rfl⟩ : ∃ d, n = b + (d + 1) := ⟨n - b - 1, by omega⟩
  rw [List.range_eq_range', ← List.range'_append_1, List.filter_append, Nat.zero_add, List.range'_succ, List.filter_cons_of_pos h1]
  have e2 : (List.range' (b + 1) d).filter p = [] := by
    rw [List.filter_eq_nil_iff]; intro i hi; have := List.mem_range'_1.1 hi; rw [h2 i (by omega)]; simp
  rw [e2, List.range_eq_range']

/-- The lowest bit first; then the others. -/
theorem low_bits (c m i : Nat) : (2 ^ c * (2 * m + 1)).testBit i = (if i < c then false else (2 * m + 1).testBit (i - c)) ∧ ((2 ^ c * (2 * m + 1)) &&& (2 ^ c * (2 * m + 1) - 1)).testBit i = ((2 ^ c * (2 * m + 1)).testBit i && decide (i ≠ c)) := by
  have hp : 0 < 2 ^ c := Nat.pow_pos (by decide)
  have e0 : (2 ^ c * (2 * m + 1)).testBit i = (if i < c then false else (2 * m + 1).testBit (i - c)) := by
    have := Nat.testBit_two_pow_mul_add (2 * m + 1) hp i
    rw [Nat.add_zero] at this
    rw [this]; simp
  refine ⟨e0, ?_⟩
  rw [Nat.testBit_and]
  have e1 : 2 ^ c * (2 * m + 1) - 1 = 2 ^ c * (2 * m) + (2 ^ c - 1) := by
    rw [Nat.mul_add, Nat.mul_one]; omega
  have e2 : (2 ^ c * (2 * m + 1) - 1).testBit i = (if i < c then (2 ^ c - 1).testBit i else (2 * m).testBit (i - c)) := by
    rw [e1]; exact Nat.testBit_two_pow_mul_add (2 * m) (show 2 ^ c - 1 < 2 ^ c by omega) i
  rw [e0, e2]
  by_cases h : i < c
  · simp [h]
  · simp only [h, if_false]
    rcases Nat.lt_or_ge c i with h1 | h1
    · obtain ⟨j, hj⟩ : ∃ j, i - c = j + 1 := ⟨i - c - 1, by omega⟩
      rw [hj, Nat.testBit_succ, Nat.testBit_succ, show (2 * m + 1) / 2 = m by omega, show 2 * m / 2 = m by omega]
      have : i ≠ c := by omega
      simp [this]
    · have : i = c := by omega
      subst this
      simp
theorem bl_head (x f : Nat) (h0 : x ≠ 0) (hx : x < 18446744073709551616) : bl x f = (f + Lib.ctz 64 x) :: bl (x &&& (x - 1)) f := by
  obtain ⟨m, hm, hk⟩ := Lib.ctzFrom_spec 64 x (by omega) hx
  have e : Lib.ctz 64 x = Lib.ctzFrom 64 x := by simp [Lib.ctz, h0]
  rw [← e] at hm hk
  generalize Lib.ctz 64 x = c at *
  unfold bl
  rw [filter_head (fun i => x.testBit i) (fun i => (x &&& (x - 1)).testBit i) c 64 hk ?_ ?_ ?_]
  · rfl
  · intro i hi
    show x.testBit i = false
    rw [hm, (low_bits c m i).1, if_pos hi]
  · show x.testBit c = true
    rw [hm, (low_bits c m c).1, if_neg (Nat.lt_irrefl _)]
    simp
  · intro i
    show (x &&& (x - 1)).testBit i = (x.testBit i && decide (i ≠ c))
    rw [hm]
    exact (low_bits c m i).2
theorem bitLen_log (f x : Nat) (h0 : x ≠ 0) (hx : x < 2 ^ f) : Lib.bitLenAux f x = x.log2 + 1 := by
  induction f generalizing x with
  | zero => simp at hx; omega
  | succ f ih =>
    show (if x = 0 then 0 else 1 + Lib.bitLenAux f (x / 2)) = _
    rw [if_neg h0]
    by_cases h1 : x = 1
    · subst h1
      rw [show (1 : Nat).log2 = 0 by decide]
      cases f <;> simp [Lib.bitLenAux]
    · rw [ih (x / 2) (by omega) (by rw [Nat.pow_succ] at hx; omega), Nat.log2_def x, if_pos (by omega)]; omega
theorem bl_last (x f : Nat) (h0 : x ≠ 0) (hx : x < 18446744073709551616) : (∃ l, bl x f = l ++ [f + (Lib.bitLen x - 1)]) ∧ 1 ≤ Lib.bitLen x ∧ Lib.bitLen x ≤ 64 := by
  have e : Lib.bitLen x = x.log2 + 1 := bitLen_log 64 x h0 hx
  have h1 : 2 ^ x.log2 ≤ x := Nat.log2_self_le h0
  have h2 : x < 2 ^ (x.log2 + 1) := Nat.lt_log2_self
  have h3 : x.log2 < 64 := (Nat.log2_lt h0).2 hx
  rw [e]
  refine ⟨⟨((List.range x.log2).filter (fun i => x.testBit i)).map (fun i => f + i), ?_⟩, by omega, by omega⟩
  unfold bl
  rw [filter_last (fun i => x.testBit i) x.log2 64 h3 ?_ ?_, List.map_append]
  · rfl
  · show x.testBit x.log2 = true
    rw [testBit_is, decide_eq_true_eq]
    have : x / 2 ^ x.log2 = 1 := by
      apply Nat.div_eq_of_lt_le
      · omega
      · rw [Nat.pow_succ] at h2; omega
    rw [this]
  · intro i hi
    exact Nat.testBit_lt_two_pow (Nat.lt_of_lt_of_le h2 (Nat.pow_le_pow_right (by decide) hi))

/-- The words of slots from one on, ahead of another one, without the bits of others. -/
def pw (ws : List Int) (f t k : Nat) : Nat := cutN (wd ws k) (f - 64 * k) (64 * (k + 1) - t)
def yl (ws : List Int) (f t j : Nat) : Nat × Nat := (64 * (f / 64 + j), pw ws f t (f / 64 + j))
def ny (f t : Nat) : Nat := (t + 63) / 64 - f / 64
def blL (l : List (Nat × Nat)) : List Nat := l.flatMap (fun p => bl p.2 p.1)
theorem blL_snoc (l : List (Nat × Nat)) (p : Nat × Nat) : blL (l ++ [p]) = blL l ++ bl p.2 p.1 := by unfold blL; simp
theorem bl_pw (ws : List Int) (f t k : Nat) (hft : f ≤ t) (hk : 64 * k < t) (hf : f < 64 * (k + 1)) : bl (pw ws f t k) (64 * k) = occs ws (max f (64 * k)) (min t (64 * (k + 1)) - max f (64 * k)) := by
  obtain ⟨l, hl⟩ : ∃ l, l = f - 64 * k := ⟨_, rfl⟩
  obtain ⟨h, hh⟩ : ∃ h, h = 64 * (k + 1) - t := ⟨_, rfl⟩
  obtain ⟨m, hm⟩ : ∃ m, m = 64 - l - h := ⟨_, rfl⟩
  have e1 : max f (64 * k) = 64 * k + l := by omega
  have e2 : min t (64 * (k + 1)) - max f (64 * k) = m := by omega
  rw [e2, e1]
  unfold bl pw
  rw [← hl, ← hh]
  have es : List.range 64 = List.range' 0 l ++ (List.range' l m ++ List.range' (l + m) h) := by
    rw [List.range'_append_1, List.range_eq_range', show (64 : Nat) = l + (m + h) by omega, ← List.range'_append_1, Nat.zero_add]
  rw [es, List.filter_append, List.filter_append]
  have f1 : (List.range' 0 l).filter (fun i => (cutN (wd ws k) l h).testBit i) = [] := by
    rw [List.filter_eq_nil_iff]; intro i hi; have := List.mem_range'_1.1 hi; rw [cutN_bit, decide_eq_false (by omega)]; simp
  have f2 : (List.range' (l + m) h).filter (fun i => (cutN (wd ws k) l h).testBit i) = [] := by
    rw [List.filter_eq_nil_iff]; intro i hi; have := List.mem_range'_1.1 hi; rw [cutN_bit, decide_eq_false (show ¬ i + h < 64 by omega)]; simp
  rw [f1, f2, List.nil_append, List.append_nil]
  unfold occs
  rw [show List.range' (64 * k + l) m = (List.range' l m).map (fun i => 64 * k + i) by rw [List.map_add_range']; , List.filter_map]
  congr 1
  apply List.filter_congr
  intro i hi
  have := List.mem_range'_1.1 hi
  rw [cutN_bit, decide_eq_true (show l ≤ i by omega), decide_eq_true (show i + h < 64 by omega)]
  show _ = occB ws (64 * k + i)
  unfold occB
  rw [show (64 * k + i) / 64 = k by omega, show (64 * k + i) % 64 = i by omega]
  rfl
theorem occs_parts (ws : List Int) (f t : Nat) (hft : f ≤ t) : ∀ j, j ≤ ny f t → blL (upto (yl ws f t) j) = occs ws f (min t (64 * (f / 64 + j)) - f) := by
  intro j
  induction j with
  | zero =>
    intro _
    rw [show min t (64 * (f / 64 + 0)) - f = 0 by omega]; rfl
  | succ j ih =>
    intro hj
    have hj2 : j < ny f t := hj
    unfold ny at hj2
    rw [upto_succ, blL_snoc, ih (by omega)]
    show _ ++ bl (pw ws f t (f / 64 + j)) (64 * (f / 64 + j)) = _
    rw [bl_pw ws f t _ hft (by omega) (by omega)]
    rw [show min t (64 * (f / 64 + (j + 1))) - f = (min t (64 * (f / 64 + j)) - f) + (min t (64 * (f / 64 + j + 1)) - max f (64 * (f / 64 + j))) by omega, occs_add]
    rw [show f + (min t (64 * (f / 64 + j)) - f) = max f (64 * (f / 64 + j)) by omega]
theorem occs_all (ws : List Int) (f t : Nat) (hft : f ≤ t) : blL (upto (yl ws f t) (ny f t)) = occs ws f (t - f) := by
  rw [occs_parts ws f t hft _ (Nat.le_refl _)]
  congr 1
  unfold ny
  omega
theorem occs_pre {ws : List Int} {f t : Nat} (hft : f ≤ t) {pre : List (Nat × Nat)} (h : pre <+: upto (yl ws f t) (ny f t)) : ∃ r, occs ws f (t - f) = blL pre ++ r := by
  obtain ⟨r, hr⟩ := h
  exact ⟨blL r, by rw [← occs_all ws f t hft, ← hr]; unfold blL; rw [List.flatMap_append]⟩
end Go.Proofs.Ytiemfklonhlnnaa.Occ

namespace Go.Proofs.Ytiemfklonhlnnaa.Occ
open Go.RowKit Go.Shelf Go.Proofs.Ytiemfklonhlnnaa

def nats (l : List Nat) : List Value := l.map (fun x : Nat => Value.int .i64 (x : Int))
theorem nats_length (l : List Nat) : (nats l).length = l.length := by unfold nats; simp
theorem infoI : (Try.prog.info? 3).map (fun i => (i.zero, i.size, i.bytes)) = some (some (.int .i64 0), 1, 8) := by kernel_rfl

end Go.Proofs.Ytiemfklonhlnnaa.Occ

namespace Go.Proofs.Ytiemfklonhlnnaa.Occ
open Go.RowKit Go.Shelf Go.Proofs.Ytiemfklonhlnnaa

def inB (n f t : Int) : Bool := decide (0 ≤ f) && (decide (f ≤ t) && decide (t ≤ n))
theorem inB_iff {n f t : Int} : inB n f t = true ↔ 0 ≤ f ∧ f ≤ t ∧ t ≤ n := by unfold inB; simp only [Bool.and_eq_true, decide_eq_true_eq]
def upB (n s : Int) : Bool := decide (0 ≤ s) && decide (s ≤ n)
theorem upB_iff {n s : Int} : upB n s = true ↔ 0 ≤ s ∧ s ≤ n := by unfold upB; simp only [Bool.and_eq_true, decide_eq_true_eq]
def cntV (ws : List Int) (n f t : Int) : Int × Int := if askV ws n (inB n f t) = 0 then (((occs ws f.toNat (t - f).toNat).length : Int), 0) else (0, askV ws n (inB n f t))
def nthV (ws : List Int) (n k : Int) : Int × Int :=
  if chkV ws n = 0 then (if 0 ≤ k ∧ k < ((occs ws 0 n.toNat).length : Int) then ((((occs ws 0 n.toNat).getD k.toNat 0 : Nat) : Int), 0) else (0, 6)) else (0, chkV ws n)
def firstV (l : List Nat) : Int × Int := if l.length = 0 then (0, 6) else (((l.getD 0 0 : Nat) : Int), 0)
def endV (l : List Nat) : Int × Int := if l.length = 0 then (0, 6) else (((l.getD (l.length - 1) 0 : Nat) : Int), 0)
def nextV (ws : List Int) (n s : Int) : Int × Int := if askV ws n (upB n s) = 0 then firstV (occs ws s.toNat (n - s).toNat) else (0, askV ws n (upB n s))
def lastV (ws : List Int) (n s : Int) : Int × Int := if askV ws n (upB n s) = 0 then endV (occs ws 0 s.toNat) else (0, askV ws n (upB n s))

def zs (l : List Nat) : List Int := l.map (fun x : Nat => (x : Int))
theorem nats_zs (l : List Nat) : nats l = (zs l).map (Value.int .i64) := by unfold nats zs; rw [List.map_map]; rfl
theorem zs_length (l : List Nat) : (zs l).length = l.length := by unfold zs; rw [List.length_map]
theorem zs_getD (l : List Nat) (i : Nat) : (zs l).getD i 0 = ((l.getD i 0 : Nat) : Int) := by
  unfold zs
  simp only [List.getD_eq_getElem?_getD, List.getElem?_map]
  cases l[i]? <;> rfl
/-- The list that was made, as it is read. -/
theorem places_read {w w1 : World} {v : Value} {l : List Nat} (h : w1.ownsRow w.heap.size 3 1 v l.length (nats l)) : ∃ a c, v = .slice a l.length c ∧ Rd .i64 w1 a (zs l) := by
  rw [nats_zs] at h
  obtain ⟨a, c, hv, hn, hr, _⟩ := owns_arg h
  rw [zs_length] at hv
  exact ⟨a, c, hv, hr⟩
/-- Words that may be, and a place that is asked for. -/
theorem ask_bad {ws : List Int} {n : Int} {b : Bool} (hc : chkV ws n = 0) (hb : ¬ b = true) : askV ws n b = 2 := by unfold askV; rw [if_pos hc, if_neg hb]
theorem ask_ok {ws : List Int} {n : Int} {b : Bool} (hc : chkV ws n = 0) (hb : b = true) : askV ws n b = 0 := by unfold askV; rw [if_pos hc, if_pos hb]
theorem ask_chk {ws : List Int} {n : Int} {b : Bool} (hc : ¬ chkV ws n = 0) : askV ws n b = chkV ws n := by unfold askV; rw [if_neg hc]

end Go.Proofs.Ytiemfklonhlnnaa.Occ

namespace Go.Proofs.Ytiemfklonhlnnaa.Occ
open Go.RowKit Go.Shelf Go.Proofs.Ytiemfklonhlnnaa

theorem cut_none (x : Nat) (hx : x < 18446744073709551616) : cutN x 0 0 = x := by unfold cutN; simp; omega
set_option maxRecDepth 100000 in
set_option maxHeartbeats 1000000 in
theorem cut_core (b off Bw Bf Bt ca ln x f t k l h : Nat) (w : World) (hx : x < 18446744073709551616)
    (hcw : w.cell? ⟨Bw, 0, Option.none⟩ = some (.slice (some ⟨b, off, Option.none⟩) ln ca)) (hcf : w.cell? ⟨Bf, 0, Option.none⟩ = some (.int .i64 f)) (hct : w.cell? ⟨Bt, 0, Option.none⟩ = some (.int .i64 t))
    (hcx : w.cell? ⟨b, off + k, Option.none⟩ = some (.int .u64 x)) (hk : k < ln) (hln : ln ≤ 100000) (hf : f ≤ 6500000) (ht : t ≤ 6500000) (hl : l = f - 64 * k) (hh : h = 64 * (k + 1) - t) (hl2 : l < 64) (hh2 : h < 64) :
    Calls Try.prog 67 #[.int .i64 k, .pointer (some ⟨Bw, 0, Option.none⟩), .pointer (some ⟨Bf, 0, Option.none⟩), .pointer (some ⟨Bt, 0, Option.none⟩)] w fun e w' => e = .returned (.int .u64 ((cutN x l h : Nat) : Int)) ∧ w = w' := by
  obtain ⟨y, hy⟩ : ∃ y, y = x / 2 ^ l * 2 ^ l := ⟨_, rfl⟩
  obtain ⟨z, hz⟩ : ∃ z, z = y * 2 ^ h % 18446744073709551616 := ⟨_, rfl⟩
  obtain ⟨u, hu⟩ : ∃ u, u = z / 2 ^ h := ⟨_, rfl⟩
  have hyx : y ≤ x := by rw [hy]; exact Nat.div_mul_le_self _ _
  have hzl : z < 18446744073709551616 := by rw [hz]; exact Nat.mod_lt _ (by decide)
  have HC : Hid (cutN x l h = u) := Lib.hid (by unfold cutN; rw [← hy, ← hz, ← hu])
  have e1 : (x : Int) / 2 ^ l * 2 ^ l = (y : Int) := by rw [hy]; simp
  have e2 : IntKind.u64.wrap ((y : Int) * 2 ^ h) = (z : Int) := by rw [IntKind.wrap_u64, hz]; simp
  have e3 : (z : Int) / 2 ^ h = (u : Int) := by rw [hu]; simp
  rw [HC.out]
  have g1 : ((k : Int) + 1) * 64 - (t : Int) = (h : Int) ∨ h = 0 := by omega
  by_cases h1 : l = 0
  · subst h1
    have hyx2 : y = x := by rw [hy]; simp
    subst hyx2
    have g2 : ¬ (0 : Int) < (f : Int) - (k : Int) * 64 := by omega
    by_cases h2 : h = 0
    · subst h2
      have hux : u = y := by rw [hu, hz]; simp; omega
      subst hux
      have g3 : ¬ (0 : Int) < ((k : Int) + 1) * 64 - (t : Int) := by omega
      clear hy hz hu HC e1 e2 e3 hl hh g1
      go_enter Try.func67, Try.ntmps67
      go_wp2
      go_ret
      exact ⟨rfl, rfl⟩
    · have g3 : ((k : Int) + 1) * 64 - (t : Int) = (h : Int) := by omega
      have h2' : 0 < h := by omega
      clear hy hz hu HC e1 hl hh g1 h2
      go_enter Try.func67, Try.ntmps67
      go_wp2
      go_ret
      exact ⟨rfl, rfl⟩
  · have g2 : (f : Int) - (k : Int) * 64 = (l : Int) := by omega
    have h1' : 0 < l := by omega
    by_cases h2 : h = 0
    · subst h2
      have hux : u = y := by rw [hu, hz]; simp; omega
      subst hux
      have g3 : ¬ (0 : Int) < ((k : Int) + 1) * 64 - (t : Int) := by omega
      clear hy hz hu HC e2 e3 hl hh g1 h1
      go_enter Try.func67, Try.ntmps67
      go_wp2
      go_ret
      exact ⟨rfl, rfl⟩
    · have g3 : ((k : Int) + 1) * 64 - (t : Int) = (h : Int) := by omega
      have h2' : 0 < h := by omega
      clear hy hz hu HC hl hh g1 h2 h1
      go_enter Try.func67, Try.ntmps67
      go_wp2
      go_ret
      exact ⟨rfl, rfl⟩
theorem cut_any (a : Option Addr) (Bw Bf Bt ca : Nat) (ws : List Int) (f t k : Nat) (w : World) (hu : U64 ws) (hr : Rd .u64 w a ws)
    (hcw : w.cell? ⟨Bw, 0, Option.none⟩ = some (.slice a ws.length ca)) (hcf : w.cell? ⟨Bf, 0, Option.none⟩ = some (.int .i64 f)) (hct : w.cell? ⟨Bt, 0, Option.none⟩ = some (.int .i64 t))
    (hln : ws.length ≤ 100000) (ht : t ≤ 64 * ws.length) (hft : f ≤ t) (hk : 64 * k < t) (hk2 : f < 64 * (k + 1)) :
    Calls Try.prog 67 #[.int .i64 k, .pointer (some ⟨Bw, 0, Option.none⟩), .pointer (some ⟨Bf, 0, Option.none⟩), .pointer (some ⟨Bt, 0, Option.none⟩)] w fun e w' => e = .returned (.int .u64 ((pw ws f t k : Nat) : Int)) ∧ w = w' := by
  obtain ⟨b, off, rfl, hc⟩ := Rd.word hu hr k (by omega)
  exact cut_core b off Bw Bf Bt ca ws.length (wd ws k) f t k _ _ w (wd_of hu k) hcw hcf hct hc (by omega) hln (by omega) (by omega) rfl rfl (by omega) (by omega)

end Go.Proofs.Ytiemfklonhlnnaa.Occ

namespace Go.Proofs.Ytiemfklonhlnnaa.Occ
open Go.RowKit Go.Shelf Go.Proofs.Ytiemfklonhlnnaa
attribute [local go_sem] Oper.semAt_some

/-- Numbers that lie below a block stay. -/
def RdN (n : Nat) (k : IntKind) (w : World) (a : Option Addr) (zs : List Int) : Prop :=
  zs = [] ∨ ∃ b off, a = some ⟨b, off, Option.none⟩ ∧ b < n ∧ ∀ i, i < zs.length → w.cell? ⟨b, off + i, Option.none⟩ = some (.int k (zs.getD i 0))
theorem RdN.of {n : Nat} {k : IntKind} {w : World} {a : Option Addr} {zs : List Int} (h : Rd k w a zs) (hn : w.heap.size ≤ n) : RdN n k w a zs := by
  rcases h with h | ⟨b, off, ha, hlt, hc⟩
  · exact .inl h
  · exact .inr ⟨b, off, ha, by omega, hc⟩
theorem RdN.keep {n : Nat} {k : IntKind} {w w1 : World} {a : Option Addr} {zs : List Int} (h : RdN n k w a zs) (hb : Below n w w1) : RdN n k w1 a zs := by
  rcases h with h | ⟨b, off, ha, hlt, hc⟩
  · exact .inl h
  · exact .inr ⟨b, off, ha, hlt, fun i hi => (hb.cell (p := ⟨b, off + i, Option.none⟩) hlt).trans (hc i hi)⟩
theorem RdN.rd {n : Nat} {k : IntKind} {w : World} {a : Option Addr} {zs : List Int} (h : RdN n k w a zs) (hn : n ≤ w.heap.size) : Rd k w a zs := by
  rcases h with h | ⟨b, off, ha, hlt, hc⟩
  · exact .inl h
  · exact .inr ⟨b, off, ha, by omega, hc⟩

/-- What a round is handed: by its number. -/
def ym (ws : List Int) (f t j : Nat) : Nat × Nat := yl ws f t (min j (ny f t))
def encP (x : Nat × Nat) : Array Value := #[.int .i64 (x.1 : Int), .int .u64 (x.2 : Int)]
def encJ (ws : List Int) (f t j : Nat) : Array Value := encP (ym ws f t j)
/-- The slots that the rounds have told. -/
def bI (ws : List Int) (f t : Nat) (l : List Nat) : List Nat := blL (l.map (ym ws f t))
theorem bI_snoc (ws : List Int) (f t : Nat) (l : List Nat) (j : Nat) : bI ws f t (l ++ [j]) = bI ws f t l ++ bl (ym ws f t j).2 (ym ws f t j).1 := by
  unfold bI; rw [List.map_append, List.map_cons, List.map_nil, blL_snoc]
theorem ym_upto (ws : List Int) (f t : Nat) : (upto id (ny f t)).map (ym ws f t) = upto (yl ws f t) (ny f t) := by
  unfold upto
  rw [List.map_map]
  apply List.map_congr_left
  intro j hj
  have := List.mem_range.1 hj
  show ym ws f t j = _
  unfold ym
  rw [Nat.min_eq_left (by omega)]
theorem bI_all (ws : List Int) (f t : Nat) (hft : f ≤ t) : bI ws f t (upto id (ny f t)) = occs ws f (t - f) := by
  unfold bI; rw [ym_upto, occs_all ws f t hft]
theorem bI_pre {ws : List Int} {f t : Nat} (hft : f ≤ t) {pre : List Nat} (h : pre <+: upto id (ny f t)) : ∃ r, occs ws f (t - f) = bI ws f t pre ++ r := by
  have h2 : pre.map (ym ws f t) <+: upto (yl ws f t) (ny f t) := by rw [← ym_upto]; exact h.map _
  exact occs_pre hft h2
theorem ym_lt {ws : List Int} (hu : U64 ws) (f t j : Nat) : (ym ws f t j).2 < 18446744073709551616 := cutN_lt _ _ _ (wd_of hu _)
theorem ym_first (ws : List Int) (f t j : Nat) (hft : f ≤ t) : (ym ws f t j).1 ≤ t + 63 := by
  show 64 * (f / 64 + min j (ny f t)) ≤ t + 63
  unfold ny; omega
theorem bI_length {ws : List Int} {f t : Nat} (l : List Nat) : (bI ws f t l).length ≤ 64 * l.length := by
  induction l with
  | nil => exact Nat.zero_le _
  | cons j l ih =>
    show (bl (ym ws f t j).2 (ym ws f t j).1 ++ bI ws f t l).length ≤ _
    rw [List.length_append, List.length_cons]
    have : (bl (ym ws f t j).2 (ym ws f t j).1).length ≤ 64 := by
      unfold bl; rw [List.length_map]
      have := List.length_filter_le (fun i => (ym ws f t j).2.testBit i) (List.range 64)
      rwa [List.length_range] at this
    omega

set_option maxRecDepth 100000 in
set_option maxHeartbeats 2000000 in
theorem parts1_in (m l Bw Bf Bt n0 lo hi f t ca : Nat) (a : Option Addr) (ws : List Int) (hu : U64 ws) (hln : ws.length ≤ 100000) (ht : t ≤ 64 * ws.length) (hft : f ≤ t) (b1 : lo ≤ Bw ∧ Bw < hi) (b2 : lo ≤ Bf ∧ Bf < hi) (b3 : lo ≤ Bt ∧ Bt < hi) (J Jx : List Nat → World → Prop)
    (hY : ∀ pre x W, J pre W → pre.length < ny f t → YieldAt Fence.wide (m - 1) Try.prog l (encJ ws f t x) W fun e W' =>
      (e = .returned (.bool true) ∧ J (pre ++ [x]) W' ∧ Keeps n0 lo hi W W') ∨ (e = .returned (.bool false) ∧ Jx (pre ++ [x]) W'))
    (W : World) (hnz : n0 ≤ W.heap.size) (hrw : RdN n0 .u64 W a ws) (hcw : W.cell? ⟨Bw, 0, Option.none⟩ = some (.slice a ws.length ca)) (hcf : W.cell? ⟨Bf, 0, Option.none⟩ = some (.int .i64 f)) (hct : W.cell? ⟨Bt, 0, Option.none⟩ = some (.int .i64 t)) (h0 : J [] W) :
    CallsIn Fence.wide m Try.prog 66 #[.func (.yield l) #[] #[], .pointer (some ⟨Bw, 0, Option.none⟩), .pointer (some ⟨Bf, 0, Option.none⟩), .pointer (some ⟨Bt, 0, Option.none⟩)] W fun e W' => (∃ v, e = .returned v) ∧
      ((∃ ys, ys = upto id (ny f t) ∧ J ys W') ∨ (∃ pre, pre <+: upto id (ny f t) ∧ Jx pre W')) := by
  have hd : (f : Int) / 64 = ((f / 64 : Nat) : Int) := rfl
  have HU := Lib.hid hu
  have HRW := Lib.hid hrw
  have HNY : Hid (ny f t = (t + 63) / 64 - f / 64) := Lib.hid rfl
  have HF : Hid (64 * (f / 64) ≤ f ∧ f < 64 * (f / 64) + 64) := Lib.hid (by omega)
  have HYL : Hid (∀ j, j < ny f t → encJ ws f t j = encP (64 * (f / 64 + j), pw ws f t (f / 64 + j))) := Lib.hid (fun j hj => by unfold encJ ym; rw [Nat.min_eq_left (by omega)]; rfl)
  have HNY2 : Hid (ny f t = (t + 63) / 64 - f / 64) := Lib.hid rfl
  clear hu hrw
  generalize ny f t = ln at *
  generalize hq : f / 64 = q at *
  clear hq
  refine callsIn_of_wp Try.func66 rfl trivial ?_ rfl
  simp only [Try.ntmps66, List.size_toArray, List.length_cons, List.length_nil, Nat.reduceAdd, Nat.reduceSub, Array.replicate_succ, Array.replicate_zero, List.push_toArray, List.append_toArray, List.nil_append, List.cons_append]
  gi_wp2
  gi_loopw [6] (fun i wr => ∃ j : Nat, j ≤ ln ∧ i = .int .i64 ((q : Int) + (j : Int)) ∧ J (upto id j) wr ∧ RdN n0 .u64 wr a ws ∧ n0 ≤ wr.heap.size ∧ (∀ b o, lo ≤ b → b < hi → wr.cell? ⟨b, o, Option.none⟩ = W.cell? ⟨b, o, Option.none⟩)) (fun i _ => q + ln - (intOf i).toNat)
  case atStart => exact ⟨0, Nat.zero_le _, by go_num, h0, HRW.out, hnz, fun _ _ _ _ => rfl⟩
  case round =>
    obtain ⟨j, hj, rfl, hJs, hrd, hwz, hsame⟩ := hrel
    have c1 := (hsame Bw 0 b1.1 b1.2).trans hcw
    have c2 := (hsame Bf 0 b2.1 b2.2).trans hcf
    have c3 := (hsame Bt 0 b3.1 b3.2).trans hct
    have HS := Lib.hid hsame
    have HRD := Lib.hid hrd
    clear hrd hsame
    have hln2 := HNY.out
    by_cases hlt : j < ln
    · have h1 := HF.out
      have hlt2 : ((q : Int) + (j : Int)) * 64 < (t : Int) := by omega
      have HCUT := Lib.hid (cut_any a Bw Bf Bt ca ws f t (q + j) wr HU.out (HRD.out.rd hwz) c1 c2 c3 hln ht hft (by omega) (by omega))
      rw [Int.natCast_add] at HCUT
      obtain ⟨fn, tmps, assign, body, hy, hR⟩ := hY _ j wr hJs (by rw [upto_length]; exact hlt)
      rw [HYL.out j hlt] at hy
      dsimp only [encP] at hy
      have hpl : ((64 * (q + j) : Nat) : Int) = ((q : Int) + (j : Int)) * 64 := by omega
      rw [hpl] at hy
      have HNEW : Hid (upto id (j + 1) = upto id j ++ [j]) := Lib.hid (upto_succ _ _)
      have hb1 : q + j ≤ 6500000 := by omega
      have HL2 := Lib.hid hln2
      clear hpl h1 hln2
      generalize pw ws f t (q + j) = x at *
      gi_wp2_with fail
      refine ⟨trivial, fun h => (by cases h), (callsIn_wide.2 HCUT.out).mono ?_⟩
      rintro e w1 ⟨rfl, rfl⟩
      gi_wp2_with fail
      refine ⟨fun h => (by cases h), hR.mono ?_⟩
      rintro e W3 (⟨rfl, hJ3, hk3⟩ | ⟨rfl, hJx3⟩)
      · gi_wp2
        go_roundw
        case rel => exact ⟨j + 1, by omega, by go_num, by rw [HNEW.out]; exact hJ3, HRD.out.keep hk3.below, Nat.le_trans hwz hk3.below.size, fun b o h1 h2 => (hk3.cell h1 h2).trans (HS.out b o h1 h2)⟩
        case measure => simp [intOf]; omega
      · gi_wp2
        refine bodyPost_ret (results_none rfl _ _ _) rfl ?_
        exact ⟨⟨_, rfl⟩, .inr ⟨_, upto_prefix _ (show j + 1 ≤ ln by omega), by rw [HNEW.out]; exact hJx3⟩⟩
    · obtain rfl : j = ln := by omega
      have h1 := HF.out
      have hge : ¬ ((q : Int) + (j : Int)) * 64 < (t : Int) := by omega
      have hb1 : q + j ≤ 6500000 := by omega
      clear h1 hln2
      gi_wp2
      refine ⟨rfl, _, results_none rfl _ _ _, ?_⟩
      exact ⟨⟨_, rfl⟩, .inl hJs⟩

/-- The iterator's value: three boxes. -/
def boxP (w : World) (a : Option Addr) (ln ca : Nat) (f t : Int) : World := ((w.alloc (.cells #[.slice a ln ca] 24)).alloc (.cells #[.int .i64 f] 3)).alloc (.cells #[.int .i64 t] 3)
theorem boxP_size (w : World) (a : Option Addr) (ln ca : Nat) (f t : Int) : (boxP w a ln ca f t).heap.size = w.heap.size + 3 := by simp [boxP]
theorem boxP_below (w : World) (a : Option Addr) (ln ca : Nat) (f t : Int) : Below w.heap.size w (boxP w a ln ca f t) := (((Below.refl _ w).alloc (Nat.le_refl _) _).alloc (by simp) _).alloc (by simp; omega) _
theorem boxP_cells (w : World) (a : Option Addr) (ln ca : Nat) (f t : Int) : (boxP w a ln ca f t).cell? ⟨w.heap.size, 0, Option.none⟩ = some (.slice a ln ca) ∧ (boxP w a ln ca f t).cell? ⟨w.heap.size + 1, 0, Option.none⟩ = some (.int .i64 f) ∧ (boxP w a ln ca f t).cell? ⟨w.heap.size + 2, 0, Option.none⟩ = some (.int .i64 t) := by
  have a1 := Boxed.new w 24 (.slice a ln ca)
  have a2 := Boxed.new (w.alloc (.cells #[.slice a ln ca] 24)) 3 (.int .i64 f)
  have a3 := Boxed.new ((w.alloc (.cells #[.slice a ln ca] 24)).alloc (.cells #[.int .i64 f] 3)) 3 (.int .i64 t)
  simp only [World.size_alloc] at a2 a3
  exact ⟨((a1.alloc _).alloc _).cell, (a2.alloc _).cell, a3.cell⟩
set_option maxHeartbeats 1000000 in
theorem parts_any (a : Option Addr) (ln ca : Nat) (f t : Int) (w : World) :
    Calls Try.prog 59 #[.slice a ln ca, .int .i64 f, .int .i64 t] w fun e w' => e = .returned (.func (.func 66) #[] #[.pointer (some ⟨w.heap.size, 0, Option.none⟩), .pointer (some ⟨w.heap.size + 1, 0, Option.none⟩), .pointer (some ⟨w.heap.size + 2, 0, Option.none⟩)]) ∧
      boxP w a ln ca f t = w' := by
  go_enter Try.func59, Try.ntmps59
  go_wp2
  go_ret
  exact ⟨rfl, rfl⟩

/-- The words come one behind the other; or a part of them, a round having said 'no more'. -/
theorem parts_stops (m n0 f t ca : Nat) (a : Option Addr) (ws : List Int) (w : World) (hu : U64 ws) (hr : RdN n0 .u64 w a ws) (hn : n0 ≤ w.heap.size) (hln : ws.length ≤ 100000) (ht : t ≤ 64 * ws.length) (hft : f ≤ t) :
    SeqStopsK Fence.wide m Try.prog 66 #[.pointer (some ⟨w.heap.size, 0, Option.none⟩), .pointer (some ⟨w.heap.size + 1, 0, Option.none⟩), .pointer (some ⟨w.heap.size + 2, 0, Option.none⟩)] (encJ ws f t) (Keeps n0 w.heap.size (w.heap.size + 3)) (fun ys => ys = upto id (ny f t)) (fun pre => pre <+: upto id (ny f t)) (ny f t) (boxP w a ws.length ca f t) := fun l J Jx W hW hJ hJz hY h0 => by
  obtain ⟨c1, c2, c3⟩ := boxP_cells w a ws.length ca f t
  have hs := boxP_size w a ws.length ca f t
  have hb := boxP_below w a ws.length ca f t
  exact parts1_in m l _ _ _ n0 w.heap.size (w.heap.size + 3) f t ca a ws hu hln ht hft (by omega) (by omega) (by omega) J Jx hY W (by have := hW.size; omega) (hr.keep ((hb.mono hn).trans (hW.mono (by omega)))) ((hW.cell (p := ⟨w.heap.size, 0, Option.none⟩) (by show w.heap.size < _; omega)).trans c1) ((hW.cell (p := ⟨w.heap.size + 1, 0, Option.none⟩) (by show w.heap.size + 1 < _; omega)).trans c2) ((hW.cell (p := ⟨w.heap.size + 2, 0, Option.none⟩) (by show w.heap.size + 2 < _; omega)).trans c3) h0

end Go.Proofs.Ytiemfklonhlnnaa.Occ
