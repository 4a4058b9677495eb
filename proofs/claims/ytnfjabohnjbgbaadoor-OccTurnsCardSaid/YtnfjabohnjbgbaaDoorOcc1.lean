/- Contracts of package occ and of the document's answer: Check, Has. -/
import Derived.Test.YtnfjabohnjbgbaaDoorOccPlain
import Derived.Test.YtnfjabohnjbgbaaDoorKit
import Derived.Test.YtnfjabohnjbgbaaDoorOccBits5
namespace Go.Proofs.YtnfjabohnjbgbaaDoor.Occ
open Go.RowKit Go.Shelf Go.Proofs.YtnfjabohnjbgbaaDoor

theorem chkV_far {ws : List Int} {n : Int} (h : n < 0 ∨ 65536 < n) : chkV ws n = 2 := if_pos h
theorem chkV_in {ws : List Int} {n : Nat} (h : n ≤ 65536) : chkV ws (n : Int) = if mayB ws n = true then 0 else 8 := by
  unfold chkV; rw [if_neg (by omega), Int.toNat_natCast]

set_option maxRecDepth 100000 in
set_option maxHeartbeats 1000000 in
theorem Check_any (a : Option Addr) (ca : Nat) (ws : List Int) (n : Int) (w : World) (hu : U64 ws) (hr : Rd .u64 w a ws) (hl : ws.length ≤ 100000) :
    Calls Tryd.prog 13 #[.slice a ws.length ca, .int .i64 n] w fun e w' => e = .returned (.int .i64 (chkV ws n)) ∧ w = w' := by
  by_cases h0 : n < 0
  · rw [chkV_far (.inl h0)]
    clear hr hu
    go_enter Tryd.func13, Tryd.ntmps13
    go_wp2
    go_ret
    exact ⟨rfl, rfl⟩
  by_cases h1 : 65536 < n
  · rw [chkV_far (.inr h1)]
    clear hr hu
    go_enter Tryd.func13, Tryd.ntmps13
    go_wp2
    go_ret
    exact ⟨rfl, rfl⟩
  obtain ⟨n, rfl⟩ := Int.eq_ofNat_of_zero_le (show 0 ≤ n by omega)
  rw [chkV_in (by omega)]
  by_cases hlen : ws.length = (n + 63) / 64
  · have HM := Lib.hid (mayB_last hu hlen)
    have hd : ((n : Int) + 64 - 1) / 64 = (ws.length : Int) := by omega
    by_cases hz : n % 64 = 0
    · have hz2 : (n : Int) % 64 = 0 := by omega
      rw [if_pos (HM.out.2 (.inl hz))]
      clear hr hu hz hlen
      go_enter Tryd.func13, Tryd.ntmps13
      go_wp2
      go_ret
      exact ⟨rfl, rfl⟩
    · obtain ⟨b, o, rfl, c1⟩ := Rd.word hu hr (ws.length - 1) (by omega)
      have hx := wd_of hu (ws.length - 1)
      have hlen0 : ws.length ≠ 0 := by omega
      have hm64 : n % 64 < 64 := Nat.mod_lt _ (by decide)
      have hm : (n : Int) % 64 = ((n % 64 : Nat) : Int) := rfl
      clear hr hu hlen
      generalize wd ws (ws.length - 1) = x at *
      generalize hL : ws.length - 1 = L at *
      have hL2 : (ws.length : Int) - 1 = (L : Int) := by omega
      have hL3 : L < ws.length := by omega
      clear hL
      generalize ws.length = ln at *
      generalize n % 64 = k at *
      have hk : 0 < (k : Int) := by omega
      by_cases hxx : x / 2 ^ k = 0
      · rw [if_pos (HM.out.2 (.inr hxx))]
        have hs : (x : Int) / 2 ^ k = 0 := by
          have : ((x / 2 ^ k : Nat) : Int) = 0 := by rw [hxx]; rfl
          simpa using this
        clear hxx
        go_enter Tryd.func13, Tryd.ntmps13
        go_wp2
        go_ret
        exact ⟨rfl, rfl⟩
      · rw [if_neg (fun g => (HM.out.1 g).elim hz hxx)]
        have hs : ¬ (x : Int) / 2 ^ k = 0 := by
          intro g
          have : ((x / 2 ^ k : Nat) : Int) = 0 := by simpa using g
          omega
        clear hxx
        go_enter Tryd.func13, Tryd.ntmps13
        go_wp2
        go_ret
        exact ⟨rfl, rfl⟩
  · have hd : ((n : Int) + 64 - 1) / 64 = (((n + 63) / 64 : Nat) : Int) := by omega
    rw [if_neg (fun g => hlen (mayB_iff.1 g).1)]
    clear hr hu
    generalize (n + 63) / 64 = q at *
    have hne : ((ws.length : Int) != (q : Int)) = true := by rw [bne_iff_ne]; omega
    clear hlen
    go_enter Tryd.func13, Tryd.ntmps13
    go_wp2
    go_ret
    exact ⟨rfl, rfl⟩

theorem ret_b {a b : Bool} (h : a = b) : Ending.returned (.bool a) = .returned (.bool b) := by rw [h]
set_option maxRecDepth 100000 in
theorem bit_any (x k : Nat) (w : World) (hx : x < 18446744073709551616) (hk : k < 64) : Calls Tryd.prog 40 #[.int .u64 x, .int .i64 k] w fun e w' => e = .returned (.bool (x.testBit k)) ∧ w = w' := by
  have HB : Hid (((x : Int) / 2 ^ k % 2 == 1) = x.testBit k) := Lib.hid (by
    rw [testBit_is, Bool.eq_iff_iff, beq_iff_eq, decide_eq_true_eq]
    have : ((x / 2 ^ k % 2 : Nat) : Int) = (x : Int) / 2 ^ k % 2 := by simp
    rw [← this]; omega)
  go_enter Tryd.func40, Tryd.ntmps40
  go_wp2
  go_ret
  exact ⟨ret_b HB.out, rfl⟩
set_option maxRecDepth 100000 in
set_option maxHeartbeats 1000000 in
theorem Is_any (a : Option Addr) (ca : Nat) (ws : List Int) (s : Nat) (w : World) (hu : U64 ws) (hr : Rd .u64 w a ws) (hl : ws.length ≤ 100000) (hs : s < 64 * ws.length) :
    Calls Tryd.prog 34 #[.slice a ws.length ca, .int .i64 s] w fun e w' => e = .returned (.bool (occB ws s)) ∧ w = w' := by
  obtain ⟨b, o, rfl, c1⟩ := Rd.word hu hr (s / 64) (by omega)
  have HB := Lib.hid (bit_any (wd ws (s / 64)) (s % 64) · (wd_of hu _) (Nat.mod_lt _ (by decide)))
  have HV : Hid ((wd ws (s / 64)).testBit (s % 64) = occB ws s) := Lib.hid rfl
  have hd : (s : Int) / 64 = ((s / 64 : Nat) : Int) := rfl
  have hm : (s : Int) % 64 = ((s % 64 : Nat) : Int) := rfl
  have hq : s / 64 < ws.length := by omega
  clear hu hr
  generalize wd ws (s / 64) = x at *
  generalize s / 64 = q at *
  generalize s % 64 = k at *
  rw [← HV.out]
  generalize ws.length = ln at *
  go_enter Tryd.func34, Tryd.ntmps34
  go_wp2_with fail
  refine (HB.out _).mono ?_
  rintro e w' ⟨rfl, rfl⟩
  go_wp2
  go_ret
  exact ⟨rfl, rfl⟩

end Go.Proofs.YtnfjabohnjbgbaaDoor.Occ
