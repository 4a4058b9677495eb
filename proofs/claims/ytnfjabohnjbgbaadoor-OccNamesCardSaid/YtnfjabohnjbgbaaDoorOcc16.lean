/- Contracts of package occ: Next, Last, Nth. -/
import Derived.Test.YtnfjabohnjbgbaaDoorOcc15
namespace Go.Proofs.YtnfjabohnjbgbaaDoor.Occ
open Go.RowKit Go.Shelf Go.Proofs.YtnfjabohnjbgbaaDoor

set_option maxRecDepth 100000 in
set_option maxHeartbeats 1000000 in
theorem Next_any (a : Option Addr) (ca : Nat) (ws : List Int) (n s : Int) (w : World) (hT : Tab w) (hu : U64 ws) (hr : Rd .u64 w a ws) (hl : ws.length ≤ 100000) :
    Calls Tryd.prog 21 #[.slice a ws.length ca, .int .i64 n, .int .i64 s] w fun e w' => e = .returned (.tuple #[.int .i64 (nextV ws n s).1, .int .i64 (nextV ws n s).2]) ∧ Below w.heap.size w w' := by
  by_cases hv : askV ws n (upB n s) = 0
  · obtain ⟨hc, hb⟩ := askV_ok hv
    obtain ⟨m, rfl, hm, hlen, _⟩ := chkV_ok hc
    obtain ⟨h0, h1⟩ := upB_iff.1 hb
    obtain ⟨s, rfl⟩ := Int.eq_ofNat_of_zero_le h0
    rw [show nextV ws (m : Int) (s : Int) = firstV (occs ws s (m - s)) by unfold nextV; rw [if_pos hv, Int.toNat_natCast, show ((m : Int) - (s : Int)).toNat = m - s by omega]]
    exact next_ok a ca ws m s w hT hu hr hl hv
  · rw [show nextV ws n s = (0, askV ws n (upB n s)) from if_neg hv]
    have hb0 : Below w.heap.size w ((w.alloc (.cells #[.int .i64 0] 3)).alloc (.cells #[.int .i64 0] 23)) := ((Below.refl _ w).alloc (Nat.le_refl _) _).alloc (by simp) _
    have HA1 := Lib.hid (asked_any a ca ws n (upB n s) ((w.alloc (.cells #[.int .i64 0] 3)).alloc (.cells #[.int .i64 0] 23)) hu (hr.mono hb0 (Nat.le_refl _)) hl)
    have HB0 := Lib.hid hb0
    generalize hc : askV ws n (upB n s) = c at *
    clear hu hr hc hb0 hT
    by_cases h0 : 0 ≤ s
    · by_cases h1 : s ≤ n
      · rw [upB_iff.2 ⟨h0, h1⟩] at HA1
        go_enter Tryd.func21, Tryd.ntmps21
        go_wp2_with fail
        refine HA1.out.mono ?_
        rintro e w' ⟨rfl, rfl⟩
        go_wp2
        exact bodyPost_ret (v := .tuple #[.int .i64 0, .int .i64 c]) (by simp [results, Tryd.results21, go_sem]) rfl ⟨rfl, ((Below.refl _ w).alloc (Nat.le_refl _) _).alloc (by simp) _⟩
      · rw [show upB n s = false by rw [Bool.eq_false_iff]; exact fun g => h1 (upB_iff.1 g).2] at HA1
        go_enter Tryd.func21, Tryd.ntmps21
        go_wp2_with fail
        refine HA1.out.mono ?_
        rintro e w' ⟨rfl, rfl⟩
        go_wp2
        exact bodyPost_ret (v := .tuple #[.int .i64 0, .int .i64 c]) (by simp [results, Tryd.results21, go_sem]) rfl ⟨rfl, ((Below.refl _ w).alloc (Nat.le_refl _) _).alloc (by simp) _⟩
    · rw [show upB n s = false by rw [Bool.eq_false_iff]; exact fun g => h0 (upB_iff.1 g).1] at HA1
      go_enter Tryd.func21, Tryd.ntmps21
      go_wp2_with fail
      refine HA1.out.mono ?_
      rintro e w' ⟨rfl, rfl⟩
      go_wp2
      exact bodyPost_ret (v := .tuple #[.int .i64 0, .int .i64 c]) (by simp [results, Tryd.results21, go_sem]) rfl ⟨rfl, ((Below.refl _ w).alloc (Nat.le_refl _) _).alloc (by simp) _⟩

set_option maxRecDepth 100000 in
set_option maxHeartbeats 1000000 in
theorem Last_any (a : Option Addr) (ca : Nat) (ws : List Int) (n s : Int) (w : World) (hu : U64 ws) (hr : Rd .u64 w a ws) (hl : ws.length ≤ 100000) :
    Calls Tryd.prog 23 #[.slice a ws.length ca, .int .i64 n, .int .i64 s] w fun e w' => e = .returned (.tuple #[.int .i64 (lastV ws n s).1, .int .i64 (lastV ws n s).2]) ∧ Below w.heap.size w w' := by
  by_cases hv : askV ws n (upB n s) = 0
  · obtain ⟨hc, hb⟩ := askV_ok hv
    obtain ⟨m, rfl, hm, hlen, _⟩ := chkV_ok hc
    obtain ⟨h0, h1⟩ := upB_iff.1 hb
    obtain ⟨s, rfl⟩ := Int.eq_ofNat_of_zero_le h0
    rw [show lastV ws (m : Int) (s : Int) = endV (occs ws 0 s) by unfold lastV; rw [if_pos hv, Int.toNat_natCast]]
    exact last_ok a ca ws m s w hu hr hl hv
  · rw [show lastV ws n s = (0, askV ws n (upB n s)) from if_neg hv]
    have hb0 : Below w.heap.size w w := Below.refl _ w
    have HA1 := Lib.hid (asked_any a ca ws n (upB n s) w hu (hr.mono hb0 (Nat.le_refl _)) hl)
    have HB0 := Lib.hid hb0
    generalize hc : askV ws n (upB n s) = c at *
    clear hu hr hc hb0
    by_cases h0 : 0 ≤ s
    · by_cases h1 : s ≤ n
      · rw [upB_iff.2 ⟨h0, h1⟩] at HA1
        go_enter Tryd.func23, Tryd.ntmps23
        go_wp2_with fail
        refine HA1.out.mono ?_
        rintro e w' ⟨rfl, rfl⟩
        go_wp2
        go_ret2
        exact ⟨rfl, HB0.out⟩
      · rw [show upB n s = false by rw [Bool.eq_false_iff]; exact fun g => h1 (upB_iff.1 g).2] at HA1
        go_enter Tryd.func23, Tryd.ntmps23
        go_wp2_with fail
        refine HA1.out.mono ?_
        rintro e w' ⟨rfl, rfl⟩
        go_wp2
        go_ret2
        exact ⟨rfl, HB0.out⟩
    · rw [show upB n s = false by rw [Bool.eq_false_iff]; exact fun g => h0 (upB_iff.1 g).1] at HA1
      go_enter Tryd.func23, Tryd.ntmps23
      go_wp2_with fail
      refine HA1.out.mono ?_
      rintro e w' ⟨rfl, rfl⟩
      go_wp2
      go_ret2
      exact ⟨rfl, HB0.out⟩

set_option maxRecDepth 100000 in
set_option maxHeartbeats 1000000 in
theorem Nth_any (a : Option Addr) (ca : Nat) (ws : List Int) (n k : Int) (w : World) (hT : Tab w) (hu : U64 ws) (hr : Rd .u64 w a ws) (hl : ws.length ≤ 100000) (hk : k ≤ 9223372036854775807) :
    Calls Tryd.prog 11 #[.slice a ws.length ca, .int .i64 n, .int .i64 k] w fun e w' => e = .returned (.tuple #[.int .i64 (nthV ws n k).1, .int .i64 (nthV ws n k).2]) ∧ Below w.heap.size w w' := by
  have hb0 : Below w.heap.size w (((w.alloc (.cells #[.int .i64 k] 3)).alloc (.cells #[.int .i64 0] 3)).alloc (.cells #[.int .i64 0] 23)) := (((Below.refl _ w).alloc (Nat.le_refl _) _).alloc (by simp) _).alloc (by simp; omega) _
  have HB0 := Lib.hid hb0
  have HA1 := Lib.hid (Check_any a ca ws n (((w.alloc (.cells #[.int .i64 k] 3)).alloc (.cells #[.int .i64 0] 3)).alloc (.cells #[.int .i64 0] 23)) hu (hr.mono hb0 (Nat.le_refl _)) hl)
  by_cases hv : chkV ws n = 0
  · obtain ⟨m, rfl, hm, hlen, _⟩ := chkV_ok hv
    by_cases h0 : 0 ≤ k
    · obtain ⟨k, rfl⟩ := Int.eq_ofNat_of_zero_le h0
      rw [show nthV ws (m : Int) (k : Int) = nthL (occs ws 0 m) k by
        unfold nthV nthL
        rw [if_pos hv, Int.toNat_natCast, Int.toNat_natCast]
        by_cases h : k < (occs ws 0 m).length
        · rw [if_pos h, if_pos (by omega)]
        · rw [if_neg h, if_neg (by omega)]]
      exact nth_ok a ca ws m k w hT hu hr hl hv (by omega)
    · rw [show nthV ws (m : Int) k = (0, 6) by unfold nthV; rw [if_pos hv, if_neg (by omega)]]
      rw [hv] at HA1
      have ck := (((Boxed.new w 3 (.int .i64 k)).alloc (.cells #[.int .i64 0] 3)).alloc (.cells #[.int .i64 0] 23)).cell
      have h1 : k < 0 := by omega
      clear hu hr hb0 hT hlen hv
      go_enter Tryd.func11, Tryd.ntmps11
      go_wp2_with fail
      refine wp_scope_straight ?_
      go_wp2_with fail
      refine HA1.out.mono ?_
      rintro e w' ⟨rfl, rfl⟩
      go_wp2
      rw [Exit.noGoto_ret]
      exact bodyPost_ret (v := .tuple #[.int .i64 0, .int .i64 6]) (by simp [results, Tryd.results11, go_sem]) rfl ⟨rfl, (((Below.refl _ w).alloc (Nat.le_refl _) _).alloc (by simp) _).alloc (by simp; omega) _⟩
  · rw [show nthV ws n k = (0, chkV ws n) from if_neg hv]
    generalize hc : chkV ws n = c at *
    clear hu hr hc hb0 hT
    go_enter Tryd.func11, Tryd.ntmps11
    go_wp2_with fail
    refine wp_scope_straight ?_
    go_wp2_with fail
    refine HA1.out.mono ?_
    rintro e w' ⟨rfl, rfl⟩
    go_wp2
    rw [Exit.noGoto_ret]
    exact bodyPost_ret (v := .tuple #[.int .i64 0, .int .i64 c]) (by simp [results, Tryd.results11, go_sem]) rfl ⟨rfl, (((Below.refl _ w).alloc (Nat.le_refl _) _).alloc (by simp) _).alloc (by simp; omega) _⟩

end Go.Proofs.YtnfjabohnjbgbaaDoor.Occ
