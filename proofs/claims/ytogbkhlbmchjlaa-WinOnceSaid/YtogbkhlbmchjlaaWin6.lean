/- Lists of windows: the document's Path; Row. -/
import Derived.Test.YtogbkhlbmchjlaaWin5
namespace Go.Proofs.Ytogbkhlbmchjlaa.Win
open Go.RowKit Go.Shelf Go.Proofs.Ytogbkhlbmchjlaa Go.Proofs.Ytogbkhlbmchjlaa.Frac

theorem pcells_two (x y : Int) : pcells [(x, y)] = [.int .i64 x, .int .i64 y] := rfl

set_option maxRecDepth 100000 in
set_option maxHeartbeats 4000000 in
theorem refPath_ok (a c s : Nat) (w : World) (q1 : 2 ≤ a) (q2 : a ≤ 6) (q3 : a + c ≤ 16) (hs : s < 2 ^ (a + c)) : Calls Try.prog 14 #[.int .i64 ((2 ^ a : Nat) : Int), .int .i64 ((2 ^ (a + c) : Nat) : Int), .int .i64 s] w fun e w' => AnsP (pathL a c s, 0) w e w' := by
  obtain ⟨i0, hi, hz0, hz1, hz2⟩ := info_parts info2
  have hin : inR ((2 ^ (a + c) : Nat) : Int) (s : Int) = true := inR_iff.2 ⟨by omega, Int.ofNat_lt.2 hs⟩
  have HA : Hid (∀ w, Calls Try.prog 27 #[.int .i64 ((2 ^ a : Nat) : Int), .int .i64 ((2 ^ (a + c) : Nat) : Int), .int .i64 0, .int .i64 s] w fun e w' => e = .returned (.int .i64 0) ∧ w = w') := Lib.hid (fun w => by
    have := refAsked_any ((2 ^ a : Nat) : Int) ((2 ^ (a + c) : Nat) : Int) 0 s w
    rw [if_pos (askA_iff.2 ⟨okB_of q1 q2 q3, hin, Int.le_refl _, by omega⟩)] at this
    exact this)
  have hs16 : 2 ^ (a + c) ≤ 65536 := Nat.le_trans (Nat.pow_le_pow_right (by decide) q3) (by decide)
  have ha64 : 2 ^ a ≤ 64 := Nat.le_trans (Nat.pow_le_pow_right (by decide) q2) (by decide)
  have ha0 : 0 < 2 ^ a := Nat.pow_pos (by decide)
  have hn0 : 0 < 2 ^ (a + c) := Nat.pow_pos (by decide)
  have HH : Hid (∀ w, Calls Try.prog 24 #[.int .i64 ((2 ^ a : Nat) : Int), .int .i64 ((2 ^ (a + c) : Nat) : Int)] w fun e w' => e = .returned (.int .i64 c) ∧ w = w') := Lib.hid (fun w => by
    have := height_any ((2 ^ a : Nat) : Int) ((2 ^ (a + c) : Nat) : Int) w (by omega) (by omega) (by omega) (by omega)
    rw [highN_of] at this
    exact this)
  have HOF := Lib.hid (fun h (hh : h ≤ c) w => refOf_any a h s w (by omega) (by omega))
  clear hin hs
  generalize (2 ^ (a + c) : Nat) = pn at *
  generalize hpa : (2 ^ a : Nat) = pa at *
  clear hpa
  go_enter Try.func14, Try.ntmps14
  go_wp2_with fail
  refine (HA.out _).mono ?_
  rintro e w' ⟨rfl, rfl⟩
  go_wp2_with fail
  go_loopw [9, 10, 11, 12] (fun v i _ _ wr => ∃ k : Nat, k ≤ c + 1 ∧ i = .int .i64 k ∧ wr.ownsRow w.heap.size 38 2 v k (pcells (upto (winP a s) k)) ∧ Below w.heap.size w wr) (fun _ i _ _ _ => c + 1 - (intOf i).toNat)
  case atStart => exact ⟨0, Nat.zero_le _, rfl, World.ownsRow_nil _ _ _ _, Below.refl _ _⟩
  case round =>
    obtain ⟨k, hk, rfl, hown, hbl⟩ := hrel
    have HO := Lib.hid hown
    have HB := Lib.hid hbl
    clear hown hbl
    go_wp2_with fail
    refine (HH.out _).mono ?_
    rintro e w' ⟨rfl, rfl⟩
    by_cases hlt : k ≤ c
    · have HP : Hid (winP a s k = (((lowW (a + k) s : Nat) : Int), ((lowW (a + k) s + 2 ^ (a + k) : Nat) : Int))) := Lib.hid rfl
      have HF := Lib.hid (HOF.out k hlt)
      generalize lowW (a + k) s = lo at *
      generalize lo + 2 ^ (a + k) = up at *
      go_wp2_with fail
      refine (HF.out _).mono ?_
      rintro e w' ⟨rfl, rfl⟩
      go_wp2_with (at_builtin; refine wpList_append_pair HO.out HB.out.size rfl _ _ 31 rfl i0 Try.underlying31 hi hz0 hz1 hz2 lo up 1 rfl rfl (by unfold maxLen; omega) (by omega) ?_)
      intro v' w2 hown' hb'
      have HO2 := Lib.hid hown'
      have HB2 := Lib.hid (HB.out.trans hb')
      clear hown' hb'
      go_wp2
      go_roundw
      case rel => exact ⟨k + 1, by omega, by go_num, by rw [upto_succ, HP.out]; exact HO2.out, HB2.out⟩
      case measure => simp [intOf]; omega
    · obtain rfl : k = c + 1 := by omega
      go_wp2
      go_ret2
      exact AnsP.some rfl (upto_length _ _) HO.out HB.out

set_option maxRecDepth 100000 in
set_option maxHeartbeats 2000000 in
theorem refPath_bad (seg size s : Int) (w : World) (h : ¬ (okB seg size = true ∧ inR size s = true)) : Calls Try.prog 14 #[.int .i64 seg, .int .i64 size, .int .i64 s] w fun e w' => AnsP ([], 2) w e w' := by
  have HA : Hid (∀ w, Calls Try.prog 27 #[.int .i64 seg, .int .i64 size, .int .i64 0, .int .i64 s] w fun e w' => e = .returned (.int .i64 2) ∧ w = w') := Lib.hid (fun w => by
    have := refAsked_any seg size 0 s w
    rw [if_neg (fun g => h ⟨(askA_iff.1 g).1, (askA_iff.1 g).2.1⟩)] at this
    exact this)
  clear h
  go_enter Try.func14, Try.ntmps14
  go_wp2_with fail
  refine (HA.out _).mono ?_
  rintro e w' ⟨rfl, rfl⟩
  go_wp2
  go_ret2
  exact AnsP.nil rfl (Below.refl _ _)

/-- Both, at whatever arguments. -/
theorem path_V {seg size s : Int} (h : okB seg size = true ∧ inR size s = true) : ∃ a c s' : Nat, seg = ((2 ^ a : Nat) : Int) ∧ size = ((2 ^ (a + c) : Nat) : Int) ∧ s = (s' : Int) ∧ 2 ≤ a ∧ a ≤ 6 ∧ a + c ≤ 16 ∧ s' < 2 ^ (a + c) ∧ pathV seg size s = (pathL a c s', 0) := by
  obtain ⟨a, c, h1, h2, q1, q2, q3⟩ := okB_form h.1
  obtain ⟨s0, s1⟩ := inR_iff.1 h.2
  obtain ⟨s', hs'⟩ := Int.eq_ofNat_of_zero_le s0
  refine ⟨a, c, s', h1, h2, hs', q1, q2, q3, by rw [hs', h2] at s1; exact Int.ofNat_lt.1 s1, ?_⟩
  unfold pathV
  rw [if_pos h, h1, h2, hs', highN_of, Int.toNat_natCast, Nat.log2_two_pow, Int.toNat_natCast]
theorem Path_any (seg size s : Int) (w : World) : Calls Try.prog 13 #[.int .i64 seg, .int .i64 size, .int .i64 s] w fun e w' => AnsP (pathV seg size s) w e w' := by
  by_cases h : okB seg size = true ∧ inR size s = true
  · obtain ⟨a, c, s', h1, h2, h3, q1, q2, q3, h4, h5⟩ := path_V h
    rw [h5, h1, h2, h3]
    exact path_ok a c s' w q1 q2 q3 h4
  · rw [show pathV seg size s = ([], 2) from if_neg h]
    exact path_bad seg size s w h
theorem refPath_any (seg size s : Int) (w : World) : Calls Try.prog 14 #[.int .i64 seg, .int .i64 size, .int .i64 s] w fun e w' => AnsP (pathV seg size s) w e w' := by
  by_cases h : okB seg size = true ∧ inR size s = true
  · obtain ⟨a, c, s', h1, h2, h3, q1, q2, q3, h4, h5⟩ := path_V h
    rw [h5, h1, h2, h3]
    exact refPath_ok a c s' w q1 q2 q3 h4
  · rw [show pathV seg size s = ([], 2) from if_neg h]
    exact refPath_bad seg size s w h

end Go.Proofs.Ytogbkhlbmchjlaa.Win
