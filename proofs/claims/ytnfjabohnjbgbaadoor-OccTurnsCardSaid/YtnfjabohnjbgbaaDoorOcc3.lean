/- Contracts of package occ and of the document's answer: asked, Has. -/
import Derived.Test.YtnfjabohnjbgbaaDoorOcc2
namespace Go.Proofs.YtnfjabohnjbgbaaDoor.Occ
open Go.RowKit Go.Shelf Go.Proofs.YtnfjabohnjbgbaaDoor

def askV (ws : List Int) (n : Int) (b : Bool) : Int := if chkV ws n = 0 then (if b = true then 0 else 2) else chkV ws n
def atB (n s : Int) : Bool := decide (0 ≤ s) && decide (s < n)
def hasV (ws : List Int) (n s : Int) : Bool × Int := if askV ws n (atB n s) = 0 then (occB ws s.toNat, 0) else (false, askV ws n (atB n s))
theorem atB_iff {n s : Int} : atB n s = true ↔ 0 ≤ s ∧ s < n := by unfold atB; simp only [Bool.and_eq_true, decide_eq_true_eq]
/-- Words that may be. -/
theorem chkV_ok {ws : List Int} {n : Int} (h : chkV ws n = 0) : ∃ m : Nat, n = (m : Int) ∧ m ≤ 65536 ∧ ws.length = (m + 63) / 64 ∧ ∀ s, m ≤ s → s < 64 * ws.length → occB ws s = false := by
  unfold chkV at h
  by_cases h0 : n < 0 ∨ 65536 < n
  · rw [if_pos h0] at h; cases h
  · rw [if_neg h0] at h
    by_cases hm : mayB ws n.toNat = true
    · obtain ⟨m, rfl⟩ := Int.eq_ofNat_of_zero_le (show 0 ≤ n by omega)
      rw [Int.toNat_natCast] at hm
      exact ⟨m, rfl, by omega, mayB_iff.1 hm⟩
    · rw [if_neg hm] at h; cases h
theorem askV_ok {ws : List Int} {n : Int} {b : Bool} (h : askV ws n b = 0) : chkV ws n = 0 ∧ b = true := by
  unfold askV at h
  by_cases h0 : chkV ws n = 0
  · rw [if_pos h0] at h
    cases b with
    | true => exact ⟨h0, rfl⟩
    | false => cases h
  · rw [if_neg h0] at h; exact absurd h h0

set_option maxRecDepth 100000 in
set_option maxHeartbeats 1000000 in
theorem asked_any (a : Option Addr) (ca : Nat) (ws : List Int) (n : Int) (b : Bool) (w : World) (hu : U64 ws) (hr : Rd .u64 w a ws) (hl : ws.length ≤ 100000) :
    Calls Tryd.prog 27 #[.slice a ws.length ca, .int .i64 n, .bool b] w fun e w' => e = .returned (.int .i64 (askV ws n b)) ∧ w = w' := by
  have HC := Lib.hid (Check_any a ca ws n w hu hr hl)
  clear hu hr
  unfold askV
  generalize chkV ws n = c at *
  by_cases hc : c = 0
  · subst hc
    cases b
    all_goals
      go_enter Tryd.func27, Tryd.ntmps27
      go_wp2_with fail
      refine HC.out.mono ?_
      rintro e w' ⟨rfl, rfl⟩
      go_wp2
      go_ret
      exact ⟨rfl, rfl⟩
  · rw [if_neg hc]
    go_enter Tryd.func27, Tryd.ntmps27
    go_wp2_with fail
    refine HC.out.mono ?_
    rintro e w' ⟨rfl, rfl⟩
    go_wp2
    go_ret
    exact ⟨rfl, rfl⟩

theorem and_one (x k : Nat) (hx : x < 18446744073709551616) : bits .and .u64 ((x : Int) / 2 ^ k) 1 = ((x / 2 ^ k % 2 : Nat) : Int) := by
  have h := bits_and_u64_nat (x / 2 ^ k) 1 (Nat.lt_of_le_of_lt (Nat.div_le_self _ _) hx) (by decide)
  rw [Nat.and_one_is_mod] at h
  rw [← h]
  congr 1
set_option maxRecDepth 100000 in
set_option maxHeartbeats 1000000 in
theorem Has_any (a : Option Addr) (ca : Nat) (ws : List Int) (n s : Int) (w : World) (hu : U64 ws) (hr : Rd .u64 w a ws) (hl : ws.length ≤ 100000) :
    Calls Tryd.prog 17 #[.slice a ws.length ca, .int .i64 n, .int .i64 s] w fun e w' => e = .returned (.tuple #[.bool (hasV ws n s).1, .int .i64 (hasV ws n s).2]) ∧ w = w' := by
  have HA := Lib.hid (fun b => asked_any a ca ws n b w hu hr hl)
  by_cases hv : askV ws n (atB n s) = 0
  · obtain ⟨hc, hb⟩ := askV_ok hv
    obtain ⟨m, rfl, hm, hlen, _⟩ := chkV_ok hc
    obtain ⟨h0, h1⟩ := atB_iff.1 hb
    obtain ⟨s, rfl⟩ := Int.eq_ofNat_of_zero_le h0
    have HV := Lib.hid (show hasV ws (m : Int) (s : Int) = (occB ws s, 0) from if_pos hv)
    rw [HV.out]
    rw [hb] at hv
    have HA1 := Lib.hid (HA.out true)
    rw [hv] at HA1
    obtain ⟨b, o, rfl, c1⟩ := Rd.word hu hr (s / 64) (by omega)
    have hx := wd_of hu (s / 64)
    have HO : Hid (decide (0 < (wd ws (s / 64)) / 2 ^ (s % 64) % 2) = occB ws s) := Lib.hid (by
      unfold occB; rw [testBit_is, Bool.eq_iff_iff, decide_eq_true_eq, decide_eq_true_eq]; omega)
    have hd : (s : Int) / 64 = ((s / 64 : Nat) : Int) := rfl
    have hmm : (s : Int) % 64 = ((s % 64 : Nat) : Int) := rfl
    have hq : s / 64 < ws.length := by omega
    have hk : s % 64 < 64 := Nat.mod_lt _ (by decide)
    have hb1 := and_one (wd ws (s / 64)) (s % 64) hx
    clear hu hr hv HA hc hb HV hlen
    generalize wd ws (s / 64) = x at *
    generalize s / 64 = q at *
    generalize s % 64 = k at *
    generalize x / 2 ^ k % 2 = d at *
    generalize ws.length = ln at *
    go_enter Tryd.func17, Tryd.ntmps17
    go_wp2_with fail
    refine HA1.out.mono ?_
    rintro e w' ⟨rfl, rfl⟩
    go_wp2
    go_ret2
    exact ⟨by rw [← HO.out]; simp, rfl⟩
  · have HV := Lib.hid (show hasV ws n s = (false, askV ws n (atB n s)) from if_neg hv)
    rw [HV.out]
    have HA1 := Lib.hid (HA.out (atB n s))
    generalize hc : askV ws n (atB n s) = c at *
    clear hu hr HV HA hc
    by_cases h0 : 0 ≤ s
    · by_cases h1 : s < n
      · rw [atB_iff.2 ⟨h0, h1⟩] at HA1
        go_enter Tryd.func17, Tryd.ntmps17
        go_wp2_with fail
        refine HA1.out.mono ?_
        rintro e w' ⟨rfl, rfl⟩
        go_wp2
        go_ret2
        exact ⟨rfl, rfl⟩
      · rw [show atB n s = false by rw [Bool.eq_false_iff]; exact fun g => h1 (atB_iff.1 g).2] at HA1
        go_enter Tryd.func17, Tryd.ntmps17
        go_wp2_with fail
        refine HA1.out.mono ?_
        rintro e w' ⟨rfl, rfl⟩
        go_wp2
        go_ret2
        exact ⟨rfl, rfl⟩
    · rw [show atB n s = false by rw [Bool.eq_false_iff]; exact fun g => h0 (atB_iff.1 g).1] at HA1
      go_enter Tryd.func17, Tryd.ntmps17
      go_wp2_with fail
      refine HA1.out.mono ?_
      rintro e w' ⟨rfl, rfl⟩
      go_wp2
      go_ret2
      exact ⟨rfl, rfl⟩

end Go.Proofs.YtnfjabohnjbgbaaDoor.Occ
