/- The law WinOnce: its walk. -/
import Derived.Test.YtogbkhlbmchjlaaWinLaws3
namespace Go.Proofs.Ytogbkhlbmchjlaa.Win
open Go.RowKit Go.Shelf Go.Proofs.Ytogbkhlbmchjlaa Go.Proofs.Ytogbkhlbmchjlaa.Frac

def metN (s x : Nat) : Int := if s < x then 1 else 0
theorem rowL_at (a c h k : Nat) (hk : k < 2 ^ (c - h)) : (rowL a c h).getD k (0, 0) = (((k * 2 ^ (a + h) : Nat) : Int), ((k * 2 ^ (a + h) + 2 ^ (a + h) : Nat) : Int)) := by
  unfold rowL upto
  simp [List.getD_eq_getElem?_getD, hk, rowP]
theorem pathL_at (a c s k : Nat) (hk : k < c + 1) : (pathL a c s).getD k (0, 0) = (((lowW (a + k) s : Nat) : Int), ((lowW (a + k) s + 2 ^ (a + k) : Nat) : Int)) := by
  unfold pathL upto
  simp [List.getD_eq_getElem?_getD, hk, winP]
theorem lowW_is (m s k : Nat) (h1 : k * 2 ^ m ≤ s) (h2 : s < k * 2 ^ m + 2 ^ m) : lowW m s = k * 2 ^ m := by
  unfold lowW
  congr 1
  have hp : 0 < 2 ^ m := Nat.pow_pos (by decide)
  apply Nat.le_antisymm
  · rw [← Nat.lt_succ_iff, Nat.div_lt_iff_lt_mul hp, Nat.succ_mul]; exact h2
  · rw [Nat.le_div_iff_mul_le hp]; exact h1

set_option maxRecDepth 100000 in
set_option maxHeartbeats 4000000 in
theorem winOnce_ok (a c h s : Nat) (q1 : 2 ≤ a) (q2 : a ≤ 6) (q3 : a + c ≤ 16) (hh : h ≤ c) (hs : s < 2 ^ (a + c)) (hl : 2 ^ (a + c) ≤ 4096) (w : World) :
    Calls Try.prog 7 #[.int .i64 ((2 ^ a : Nat) : Int), .int .i64 ((2 ^ (a + c) : Nat) : Int), .int .i64 h, .int .i64 s] w fun e w' => e = .returned (.bool true) ∧ Below w.heap.size w w' := by
  obtain ⟨i0, hi, _, hz1, _⟩ := info_parts infoI'
  have hgd : Try.prog.eqGuardType Try.prog.depth 38 = false := by kernel_rfl
  have HRV : Hid (∀ w, Calls Try.prog 16 #[.int .i64 ((2 ^ a : Nat) : Int), .int .i64 ((2 ^ (a + c) : Nat) : Int), .int .i64 h] w fun e w' => AnsL (rowL a c h) 0 w e w') := Lib.hid (fun w => (row_ok a c h w q1 q2 q3 hh).mono fun e w' hh => by
    obtain ⟨a, k, rfl, hr, _, _, hb⟩ := hh.take
    exact ⟨a, k, rfl, hr, hb⟩)
  have HPV : Hid (∀ w, Calls Try.prog 13 #[.int .i64 ((2 ^ a : Nat) : Int), .int .i64 ((2 ^ (a + c) : Nat) : Int), .int .i64 s] w fun e w' => AnsL (pathL a c s) 0 w e w') := Lib.hid (fun w => (path_ok a c s w q1 q2 q3 hs).mono fun e w' hh => by
    obtain ⟨a, k, rfl, hr, _, _, hb⟩ := hh.take
    exact ⟨a, k, rfl, hr, hb⟩)
  have HRA := Lib.hid (rowL_at a c h)
  have HPA := Lib.hid (pathL_at a c s h (by omega))
  have hrl : (rowL a c h).length = 2 ^ (c - h) := upto_length _ _
  have hpl : (pathL a c s).length = c + 1 := upto_length _ _
  have HLW := Lib.hid (lowW_is (a + h) s)
  have hn : 2 ^ (c - h) * 2 ^ (a + h) = 2 ^ (a + c) := by rw [← Nat.pow_add]; congr 1; omega
  have HN := Lib.hid hn
  have hp0 : 0 < 2 ^ (a + h) := Nat.pow_pos (by decide)
  have hK : 2 ^ (c - h) ≤ 2 ^ (a + c) := by rw [← hn]; exact Nat.le_mul_of_pos_right _ hp0
  have hmono : Hid (∀ k, k < 2 ^ (c - h) → k * 2 ^ (a + h) + 2 ^ (a + h) ≤ 2 ^ (a + c)) := Lib.hid (fun k hk => by
    have : (k + 1) * 2 ^ (a + h) ≤ 2 ^ (c - h) * 2 ^ (a + h) := Nat.mul_le_mul_right _ hk
    rw [hn, Nat.add_mul, Nat.one_mul] at this
    exact this)
  clear hn
  generalize rowL a c h = R at *
  generalize pathL a c s = Q at *
  generalize lowW (a + h) s = f at *
  generalize (2 ^ (a + h) : Nat) = p at *
  generalize (2 ^ (c - h) : Nat) = K at *
  generalize (2 ^ (a + c) : Nat) = n at *
  generalize (2 ^ a : Nat) = pa at *
  have hh0 : decide ((h : Int) < 0) = false := decide_eq_false (by omega)
  have hQh : h < Q.length := by omega
  have hhc : h < c + 1 := by omega
  clear q3
  generalize c + 1 = C at *
  have hh2 : decide (C ≤ h) = false := decide_eq_false (by omega)
  go_enter Try.func7, Try.ntmps7
  go_wp2_with fail
  refine (alive_any w).mono ?_
  rintro e w1 ⟨rfl, hb1⟩
  have HB1 := Lib.hid hb1
  clear hb1
  go_wp2_with fail
  refine (HRV.out _).mono ?_
  rintro e w2 ⟨x1, c1, rfl, hr1, hb2⟩
  have HR1 := Lib.hid hr1
  have HB2 := Lib.hid (bstep HB1.out hb2)
  clear hr1 hb2
  go_wp2_with fail
  refine (HPV.out _).mono ?_
  rintro e w3 ⟨x2, c2, rfl, hr2, hb3⟩
  have HR1 := Lib.hid (HR1.out.mono hb3 (Nat.le_refl _))
  have HR2 := Lib.hid hr2
  have HB3 := Lib.hid (bstep HB2.out hb3)
  clear hr2 hb3
  rw [hpl]
  go_wp2
  go_loopw [14, 15, 16] (fun l m i wr => ∃ k : Nat, k ≤ K ∧ i = .int .i64 k ∧ l = .int .i64 ((k * p : Nat) : Int) ∧ m = .int .i64 (metN s (k * p)) ∧ Below w3.heap.size w3 wr) (fun _ _ i _ => K - (intOf i).toNat)
  case atStart => exact ⟨0, Nat.zero_le _, rfl, by simp, by simp [metN], Below.refl _ _⟩
  case round =>
    obtain ⟨k, hk, rfl, rfl, rfl, hbl⟩ := hrel
    have HB := Lib.hid hbl
    by_cases hlt : k < K
    · obtain ⟨b1, o1, rfl, r1, r2⟩ := Rd2.at HR1.out hbl (Nat.le_refl _) (show k < R.length by omega)
      obtain ⟨b2, o2, rfl, r3, r4⟩ := Rd2.at HR2.out hbl (Nat.le_refl _) hQh
      rw [HRA.out k hlt] at r1 r2
      rw [HPA.out] at r3 r4
      have hle := hmono.out k hlt
      have hlw := HLW.out k
      have hnext : (k + 1) * p = k * p + p := by rw [Nat.add_mul, Nat.one_mul]
      have HX := Lib.hid hnext
      clear hbl hnext
      generalize k * p = x at *
      dsimp only at r1 r2 r3 r4
      rw [Int.natCast_add] at r2 r4
      by_cases hA : s < x
      · have HM : Hid (metN s x = 1 ∧ metN s (x + p) = 1) := Lib.hid ⟨if_pos hA, if_pos (by omega)⟩
        rw [HM.out.1]
        clear hlw
        go_wp2
        go_roundw
        case rel => exact ⟨k + 1, by omega, by go_num, by rw [HX.out, Int.natCast_add], by rw [HX.out, HM.out.2], HB.out⟩
        case measure => simp [intOf]; omega
      · by_cases hC : s < x + p
        · obtain rfl := hlw (by omega) hC
          have HM : Hid (metN s f = 0 ∧ metN s (f + p) = 1) := Lib.hid ⟨if_neg hA, if_pos hC⟩
          rw [HM.out.1]
          have hq : ∀ w : World, (Op.equalIn 10000 38 (.agg #[.int .i64 (f : Int), .int .i64 ((f : Int) + (p : Int))]) (.agg #[.int .i64 (f : Int), .int .i64 ((f : Int) + (p : Int))])).run Try.prog w = .ok true w := fun w => by
            rw [run_equalIn_array2 w 9998 38 3 i0 .i64 _ _ _ _ Try.underlying38 Try.underlying3 hi hz1]
            simp
          clear hlw
          go_wp2
          refine still_lit mixed' (by kernel_rfl) ?_
          repeat still_step
          refine wpStill_nil ?_
          go_wp2
          go_roundw
          case rel => exact ⟨k + 1, by omega, by go_num, by rw [HX.out, Int.natCast_add], by rw [HX.out, HM.out.2], HB.out.drew⟩
          case measure => simp [intOf]; omega
        · have HM : Hid (metN s x = 0 ∧ metN s (x + p) = 0) := Lib.hid ⟨if_neg hA, if_neg hC⟩
          rw [HM.out.1]
          clear hlw
          go_wp2
          go_roundw
          case rel => exact ⟨k + 1, by omega, by go_num, by rw [HX.out, Int.natCast_add], by rw [HX.out, HM.out.2], HB.out⟩
          case measure => simp [intOf]; omega
    · obtain rfl : k = K := by omega
      have HM : Hid (metN s n = 1) := Lib.hid (if_pos hs)
      rw [HN.out, HM.out]
      clear hbl
      go_wp2
      go_ret
      exact ⟨by simp, bstep HB3.out HB.out⟩

set_option maxRecDepth 100000 in
set_option maxHeartbeats 4000000 in
theorem winOnce (seg size h s : Int) (w1 : (Lit.int .i64 seg).wf = true) (w2 : (Lit.int .i64 size).wf = true) (w3 : (Lit.int .i64 h).wf = true) (w4 : (Lit.int .i64 s).wf = true) (w : World) :
    Calls Try.prog 7 #[.int .i64 seg, .int .i64 size, .int .i64 h, .int .i64 s] w fun e w' => e = .returned (.bool true) ∧ Below w.heap.size w w' := by
  clear w1 w2 w3 w4
  by_cases hl : 4096 < size ∧ size ≤ 65536
  · obtain ⟨h1, h2⟩ := hl
    go_enter Try.func7, Try.ntmps7
    go_wp2_with fail
    refine (alive_any w).mono ?_
    rintro e w1 ⟨rfl, hb1⟩
    go_wp2
    go_ret
    exact ⟨rfl, hb1⟩
  by_cases hq : askA seg size h s = true
  · obtain ⟨a, c, h, s, rfl, rfl, rfl, rfl, q1, q2, q3, hh, hs⟩ := around_V hq
    have hs16 : 2 ^ (a + c) ≤ 65536 := Nat.le_trans (Nat.pow_le_pow_right (by decide) q3) (by decide)
    exact winOnce_ok a c h s q1 q2 q3 hh hs (by omega) w
  have hpl := path_len seg size s
  have hrl := row_len seg size h
  have HP1 := Lib.hid (fun w => Path_any seg size s w)
  have HR1 := Lib.hid (fun w => Row_any seg size h w)
  have hx : (rowV seg size h).2 = 2 ∨ ((rowV seg size h).2 = 0 ∧ (pathV seg size s).2 = 2) := by
    by_cases g : hOk seg size h
    · right
      refine ⟨by unfold rowV; rw [if_pos g], ?_⟩
      unfold pathV
      rw [if_neg (fun k => hq (askA_iff.2 ⟨g.1, k.2, g.2.1, g.2.2⟩))]
    · left; unfold rowV; rw [if_neg g]
  clear hq
  generalize pathV seg size s = P at *
  generalize rowV seg size h = R at *
  obtain ⟨p1, p2⟩ := P
  obtain ⟨r1, r2⟩ := R
  dsimp only at *
  have step : ∀ (hy : (¬ 4096 < size) ∨ (4096 < size ∧ ¬ size ≤ 65536)), Calls Try.prog 7 #[.int .i64 seg, .int .i64 size, .int .i64 h, .int .i64 s] w fun e w' => e = .returned (.bool true) ∧ Below w.heap.size w w' := by
    intro hy
    clear hl
    rcases hy with hy | ⟨hy, hy2⟩ <;> rcases hx with rfl | ⟨rfl, rfl⟩
    all_goals
      go_enter Try.func7, Try.ntmps7
      go_wp2_with fail
      refine (alive_any w).mono ?_
      rintro e w1 ⟨rfl, hb1⟩
      have HB1 := Lib.hid hb1
      clear hb1
      go_wp2_with fail
      refine (HR1.out _).mono ?_
      intro e w2 hh
      obtain ⟨x1, c1, rfl, hr1, hl1, hm1, hb2⟩ := hh.take
      have HB2 := Lib.hid (bstep HB1.out hb2)
      clear hh hr1 hb2
      dsimp only at *
      go_wp2_with fail
      refine (HP1.out _).mono ?_
      intro e w3 hh
      obtain ⟨x2, c2, rfl, hr2, hl2, hm2, hb3⟩ := hh.take
      have HB3 := Lib.hid (bstep HB2.out hb3)
      clear hh hr2 hb3
      dsimp only at *
      go_wp2
      go_ret
      exact ⟨rfl, HB3.out⟩
  by_cases h5 : 4096 < size
  · exact step (.inr ⟨h5, fun g => hl ⟨h5, g⟩⟩)
  · exact step (.inl h5)

end Go.Proofs.Ytogbkhlbmchjlaa.Win
