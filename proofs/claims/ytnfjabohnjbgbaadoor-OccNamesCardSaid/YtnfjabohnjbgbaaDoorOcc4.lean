/- Contracts of package occ and of the document's answer: Same; the document's Has. -/
import Derived.Test.YtnfjabohnjbgbaaDoorOcc3
import Derived.Test.YtnfjabohnjbgbaaDoorLists
namespace Go.Proofs.YtnfjabohnjbgbaaDoor.Occ
open Go.RowKit Go.Shelf Go.Proofs.YtnfjabohnjbgbaaDoor

set_option maxRecDepth 100000 in
set_option maxHeartbeats 2000000 in
theorem Equal_any (a b : Option Addr) (ca cb : Nat) (xs ys : List Int) (w : World) (hr : Rd .u64 w a xs) (hs : Rd .u64 w b ys) (hl : xs.length ≤ 9223372036854775807) (hl2 : ys.length ≤ 9223372036854775807) :
    Calls Tryd.prog 33 #[.slice a xs.length ca, .slice b ys.length cb] w fun e w' => e = .returned (.bool (decide (xs = ys))) ∧ Below w.heap.size w w' := by
  by_cases hn : xs.length = ys.length
  · have HN := Lib.hid hn
    have hne : ((xs.length : Int) != (ys.length : Int)) = false := by simp [hn]
    clear hn
    go_enter Tryd.func33, Tryd.ntmps33
    go_wp2
    go_loopw [5, 13] (fun _ i wr => ∃ k : Nat, k ≤ xs.length ∧ i = .int .i64 k ∧ xs.take k = ys.take k ∧ Below w.heap.size w wr) (fun _ i _ => xs.length - (intOf i).toNat)
    case atStart => exact ⟨0, Nat.zero_le _, rfl, rfl, Below.refl _ _⟩
    case round =>
      obtain ⟨k, hk, rfl, heq, hbl⟩ := hrel
      have HE := Lib.hid heq
      have HB := Lib.hid hbl
      clear heq
      by_cases hlt : k < xs.length
      · have hlt2 : k < ys.length := by have := HN.out; omega
        obtain ⟨b1, o1, rfl, c1⟩ := Rd.at hr hbl (Nat.le_refl _) hlt
        obtain ⟨b2, o2, rfl, c2⟩ := Rd.at hs hbl (Nat.le_refl _) hlt2
        have HX := Lib.hid (take_snoc xs k hlt)
        have HY := Lib.hid (take_snoc ys k hlt2)
        have HD : Hid (xs = ys → xs.getD k 0 = ys.getD k 0) := Lib.hid (fun h => by rw [h])
        clear hbl hr hs
        generalize xs.getD k 0 = x at *
        generalize ys.getD k 0 = y at *
        by_cases hxy : x = y
        · have hb : (x != y) = false := by simp [hxy]
          go_wp2
          refine still_lit mixed' (by kernel_rfl) ?_
          repeat still_step
          refine wpStill_nil ?_
          go_wp2
          go_roundw
          case rel => exact ⟨k + 1, by omega, by go_num, by rw [HX.out, HY.out, HE.out, hxy], HB.out.drew⟩
          case measure => simp [intOf]; omega
        · have hb : (x != y) = true := by simp [hxy]
          have HF : Hid (decide (xs = ys) = false) := Lib.hid (by rw [decide_eq_false_iff_not]; exact fun h => hxy (HD.out h))
          clear hxy
          go_wp2
          refine still_lit mixed' (by kernel_rfl) ?_
          repeat still_step
          refine wpStill_nil ?_
          go_wp2
          go_ret
          exact ⟨ret_bool HF.out.symm, HB.out.drew⟩
      · obtain rfl : k = xs.length := by omega
        have HF : Hid (decide (xs = ys) = true) := Lib.hid (by
          rw [decide_eq_true_eq]
          have h := HE.out
          rw [List.take_of_length_le (Nat.le_refl _), List.take_of_length_le (by have := HN.out; omega)] at h
          exact h)
        clear hr hs hbl
        go_wp2
        go_ret
        exact ⟨ret_bool HF.out.symm, HB.out⟩
  · have HF : Hid (decide (xs = ys) = false) := Lib.hid (by rw [decide_eq_false_iff_not]; exact fun h => hn (by rw [h]))
    have hne : ((xs.length : Int) != (ys.length : Int)) = true := by rw [bne_iff_ne]; omega
    clear hr hs hn
    go_enter Tryd.func33, Tryd.ntmps33
    go_wp2
    go_ret
    exact ⟨ret_bool HF.out.symm, Below.refl _ _⟩

set_option maxRecDepth 100000 in
theorem Same_any (a b : Option Addr) (ca cb : Nat) (xs ys : List Int) (w : World) (hr : Rd .u64 w a xs) (hs : Rd .u64 w b ys) (hl : xs.length ≤ 9223372036854775807) (hl2 : ys.length ≤ 9223372036854775807) :
    Calls Tryd.prog 15 #[.slice a xs.length ca, .slice b ys.length cb] w fun e w' => e = .returned (.bool (decide (xs = ys))) ∧ Below w.heap.size w w' := by
  have HE := Lib.hid (Equal_any a b ca cb xs ys w hr hs hl hl2)
  clear hr hs
  go_enter Tryd.func15, Tryd.ntmps15
  go_wp2_with fail
  refine HE.out.mono ?_
  rintro e w' ⟨rfl, hb⟩
  go_wp2
  go_ret
  exact ⟨rfl, hb⟩

set_option maxRecDepth 100000 in
set_option maxHeartbeats 1000000 in
theorem refHas_any (a : Option Addr) (ca : Nat) (ws : List Int) (n s : Int) (w : World) (hu : U64 ws) (hr : Rd .u64 w a ws) (hl : ws.length ≤ 100000) :
    Calls Tryd.prog 18 #[.slice a ws.length ca, .int .i64 n, .int .i64 s] w fun e w' => e = .returned (.tuple #[.bool (hasV ws n s).1, .int .i64 (hasV ws n s).2]) ∧ w = w' := by
  have HC := Lib.hid (refCheck_any a ca ws n w hu hr hl)
  by_cases hc : chkV ws n = 0
  · obtain ⟨m, rfl, hm, hlen, _⟩ := chkV_ok hc
    rw [hc] at HC
    by_cases hat : atB (m : Int) s = true
    · obtain ⟨h0, h1⟩ := atB_iff.1 hat
      obtain ⟨s, rfl⟩ := Int.eq_ofNat_of_zero_le h0
      have HV := Lib.hid (show hasV ws (m : Int) (s : Int) = (occB ws s, 0) from if_pos (by unfold askV; rw [if_pos hc, hat]; rfl))
      have HI := Lib.hid (Is_any a ca ws s w hu hr hl (by omega))
      rw [HV.out]
      clear hu hr hc hat hlen
      have g1 : ¬ (s : Int) < 0 := by omega
      have g2 : ¬ (m : Int) ≤ (s : Int) := by omega
      go_enter Tryd.func18, Tryd.ntmps18
      go_wp2_with fail
      refine HC.out.mono ?_
      rintro e w' ⟨rfl, rfl⟩
      go_wp2_with fail
      refine HI.out.mono ?_
      rintro e w' ⟨rfl, rfl⟩
      go_wp2
      go_ret2
      exact ⟨rfl, rfl⟩
    · have hav : askV ws (m : Int) (atB (m : Int) s) = 2 := by unfold askV; rw [if_pos hc, if_neg hat]
      have HV := Lib.hid (show hasV ws (m : Int) s = (false, 2) by unfold hasV; rw [hav]; rfl)
      rw [HV.out]
      have hx : ¬ (0 ≤ s ∧ s < (m : Int)) := fun g => hat (atB_iff.2 g)
      clear hu hr hc hat hlen hav
      by_cases h0 : s < 0
      · clear hx
        go_enter Tryd.func18, Tryd.ntmps18
        go_wp2_with fail
        refine HC.out.mono ?_
        rintro e w' ⟨rfl, rfl⟩
        go_wp2
        go_ret2
        exact ⟨rfl, rfl⟩
      · have h1 : (m : Int) ≤ s := by omega
        clear hx
        go_enter Tryd.func18, Tryd.ntmps18
        go_wp2_with fail
        refine HC.out.mono ?_
        rintro e w' ⟨rfl, rfl⟩
        go_wp2
        go_ret2
        exact ⟨rfl, rfl⟩
  · have hav : askV ws n (atB n s) = chkV ws n := by unfold askV; rw [if_neg hc]
    have HV := Lib.hid (show hasV ws n s = (false, chkV ws n) by unfold hasV; rw [hav, if_neg hc])
    rw [HV.out]
    clear hu hr hav
    generalize chkV ws n = c at *
    go_enter Tryd.func18, Tryd.ntmps18
    go_wp2_with fail
    refine HC.out.mono ?_
    rintro e w' ⟨rfl, rfl⟩
    go_wp2
    go_ret2
    exact ⟨rfl, rfl⟩

end Go.Proofs.YtnfjabohnjbgbaaDoor.Occ
