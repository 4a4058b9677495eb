/- Where slots meet. -/
import Derived.Test.YtogbkhlbmchjlaaWin7
import Derived.Test.YtogbkhlbmchjlaaShelf
namespace Go.Proofs.Ytogbkhlbmchjlaa.Win
open Go.RowKit Go.Shelf Go.Proofs.Ytogbkhlbmchjlaa Go.Proofs.Ytogbkhlbmchjlaa.Frac

def meetN (a s t : Nat) : Nat := Lib.bitLen ((s / 2 ^ a) ^^^ (t / 2 ^ a))
theorem bitLen_le (x k : Nat) (h : x < 18446744073709551616) : Lib.bitLen x ≤ k ↔ x < 2 ^ k := by
  rw [bitLen_log x h]
  by_cases hx : x = 0
  · subst hx; simp; exact Nat.pow_pos (by decide)
  · rw [if_neg hx, ← Nat.log2_lt hx]; omega
theorem lowW_eq (k s t : Nat) : lowW k s = lowW k t ↔ s / 2 ^ k = t / 2 ^ k := by
  unfold lowW
  constructor
  · intro h; exact Nat.eq_of_mul_eq_mul_right (Nat.pow_pos (by decide)) h
  · intro h; rw [h]
theorem meet_iff (a k s t : Nat) (hs : s < 4294967296) (ht : t < 4294967296) : lowW (a + k) s = lowW (a + k) t ↔ meetN a s t ≤ k := by
  have hx : (s / 2 ^ a) ^^^ (t / 2 ^ a) < 4294967296 := Nat.xor_lt_two_pow (n := 32) (Nat.lt_of_le_of_lt (Nat.div_le_self _ _) hs) (Nat.lt_of_le_of_lt (Nat.div_le_self _ _) ht)
  unfold meetN
  rw [bitLen_le _ _ (by omega), lowW_eq, Nat.pow_add, ← Nat.div_div_eq_div_mul, ← Nat.div_div_eq_div_mul]
  generalize s / 2 ^ a = u at *
  generalize t / 2 ^ a = v at *
  have hd : (u ^^^ v) / 2 ^ k = u / 2 ^ k ^^^ v / 2 ^ k := Nat.xor_div_two_pow
  rw [← Nat.div_eq_zero_iff_lt (Nat.pow_pos (by decide)), hd]
  constructor
  · intro h; rw [h, Nat.xor_self]
  · intro h
    have : u / 2 ^ k ^^^ v / 2 ^ k ^^^ v / 2 ^ k = v / 2 ^ k := by rw [h, Nat.zero_xor]
    rwa [Nat.xor_assoc, Nat.xor_self, Nat.xor_zero] at this
theorem meet_le (a c s t : Nat) (hs : s < 2 ^ (a + c)) (ht : t < 2 ^ (a + c)) (h16 : a + c ≤ 16) : meetN a s t ≤ c := by
  have hb : 2 ^ (a + c) ≤ 65536 := Nat.le_trans (Nat.pow_le_pow_right (by decide) h16) (by decide)
  rw [← meet_iff a c s t (by omega) (by omega), lowW_eq, Nat.div_eq_of_lt hs, Nat.div_eq_of_lt ht]
theorem i64_xor_nat (a b : Nat) (ha : a < 9223372036854775808) (hb : b < 9223372036854775808) : bits .xor .i64 (a : Int) (b : Int) = ((a ^^^ b : Nat) : Int) := by
  have hx : a ^^^ b < 2 ^ 63 := Nat.xor_lt_two_pow (by omega) (by omega)
  have e1 : (BitVec.ofInt 64 (a : Int)).toNat = a := by rw [BitVec.ofInt_natCast, BitVec.toNat_ofNat]; exact Nat.mod_eq_of_lt (by omega)
  have e2 : (BitVec.ofInt 64 (b : Int)).toNat = b := by rw [BitVec.ofInt_natCast, BitVec.toNat_ofNat]; exact Nat.mod_eq_of_lt (by omega)
  show IntKind.i64.wrap ((BitVec.ofInt 64 (a : Int) ^^^ BitVec.ofInt 64 (b : Int)).toNat : Int) = _
  rw [BitVec.toNat_xor, e1, e2, IntKind.wrap_i64]
  omega
def meetV (seg size s t : Int) : Int × Int := if okB seg size = true ∧ inR size s = true ∧ inR size t = true then (((meetN seg.toNat.log2 s.toNat t.toNat : Nat) : Int), 0) else (0, 2)
theorem meet_V {seg size s t : Int} (h : okB seg size = true ∧ inR size s = true ∧ inR size t = true) : ∃ a c s' t' : Nat, seg = ((2 ^ a : Nat) : Int) ∧ size = ((2 ^ (a + c) : Nat) : Int) ∧ s = (s' : Int) ∧ t = (t' : Int) ∧ 2 ≤ a ∧ a ≤ 6 ∧ a + c ≤ 16 ∧ s' < 2 ^ (a + c) ∧ t' < 2 ^ (a + c) ∧ meetV seg size s t = (((meetN a s' t' : Nat) : Int), 0) := by
  obtain ⟨a, c, h1, h2, q1, q2, q3⟩ := okB_form h.1
  obtain ⟨s0, s1⟩ := inR_iff.1 h.2.1
  obtain ⟨t0, t1⟩ := inR_iff.1 h.2.2
  obtain ⟨s', hs'⟩ := Int.eq_ofNat_of_zero_le s0
  obtain ⟨t', ht'⟩ := Int.eq_ofNat_of_zero_le t0
  refine ⟨a, c, s', t', h1, h2, hs', ht', q1, q2, q3, by rw [hs', h2] at s1; exact Int.ofNat_lt.1 s1, by rw [ht', h2] at t1; exact Int.ofNat_lt.1 t1, ?_⟩
  unfold meetV
  rw [if_pos h, h1, hs', ht', Int.toNat_natCast, Nat.log2_two_pow, Int.toNat_natCast, Int.toNat_natCast]

set_option maxRecDepth 100000 in
set_option maxHeartbeats 2000000 in
theorem meet_ok (a c s t : Nat) (w : World) (q1 : 2 ≤ a) (q2 : a ≤ 6) (q3 : a + c ≤ 16) (hs : s < 2 ^ (a + c)) (ht : t < 2 ^ (a + c)) : Calls Try.prog 18 #[.int .i64 ((2 ^ a : Nat) : Int), .int .i64 ((2 ^ (a + c) : Nat) : Int), .int .i64 s, .int .i64 t] w fun e w' => e = .returned (.tuple #[.int .i64 ((meetN a s t : Nat) : Int), .int .i64 0]) ∧ Below w.heap.size w w' := by
  have HA : Hid (askedV ((2 ^ a : Nat) : Int) ((2 ^ (a + c) : Nat) : Int) [(s : Int), (t : Int)] = ((c : Int), 0)) := Lib.hid (by
    have := highN_of a c
    unfold askedV
    rw [if_pos ⟨okB_of q1 q2 q3, by rw [List.all_cons, List.all_cons, List.all_nil, Bool.and_true, inR_iff.2 ⟨by omega, Int.ofNat_lt.2 hs⟩, inR_iff.2 ⟨by omega, Int.ofNat_lt.2 ht⟩]; rfl⟩, this])
  have hs16 : 2 ^ (a + c) ≤ 65536 := Nat.le_trans (Nat.pow_le_pow_right (by decide) q3) (by decide)
  have ha0 : 0 < 2 ^ a := Nat.pow_pos (by decide)
  have d1 : (s : Int).tdiv ((2 ^ a : Nat) : Int) = ((s / 2 ^ a : Nat) : Int) := by rw [Int.tdiv_eq_ediv_of_nonneg (by omega)]; rfl
  have d2 : (t : Int).tdiv ((2 ^ a : Nat) : Int) = ((t / 2 ^ a : Nat) : Int) := by rw [Int.tdiv_eq_ediv_of_nonneg (by omega)]; rfl
  have l1 : s / 2 ^ a ≤ s := Nat.div_le_self _ _
  have l2 : t / 2 ^ a ≤ t := Nat.div_le_self _ _
  have HM : Hid (meetN a s t = Lib.bitLen ((s / 2 ^ a) ^^^ (t / 2 ^ a))) := Lib.hid rfl
  have hb0 : Below w.heap.size w (w.alloc (.cells #[.int .i64 s, .int .i64 t] 3)) := (Below.refl _ w).alloc (Nat.le_refl _) _
  have hlt : s < 65536 ∧ t < 65536 := by omega
  clear hs ht
  generalize (2 ^ (a + c) : Nat) = pn at *
  generalize s / 2 ^ a = u at *
  generalize t / 2 ^ a = v at *
  generalize (2 ^ a : Nat) = pa at *
  have hx := i64_xor_nat u v (by omega) (by omega)
  have hxl : u ^^^ v < 2 ^ 32 := Nat.xor_lt_two_pow (by omega) (by omega)
  have v1 : IntKind.i64.wrap (u : Int) = (u : Int) := by rw [IntKind.wrap_i64]; omega
  have v2 : IntKind.i64.wrap (v : Int) = (v : Int) := by rw [IntKind.wrap_i64]; omega
  have pn0 : pa ≠ 0 := by omega
  generalize u ^^^ v = xv at *
  have v3 : IntKind.u64.wrap (xv : Int) = (xv : Int) := by rw [IntKind.wrap_u64]; omega
  have hbl := fun w : World => Try.bits_Len (xv : Int) w (by omega) (by omega)
  simp only [Int.toNat_natCast] at hbl
  rw [← HM.out] at hbl
  have HBL := Lib.hid hbl
  clear hbl
  go_enter Try.func18, Try.ntmps18
  go_wp2_with fail
  refine (asked_two _ _ _ _ _).mono ?_
  rintro e w' ⟨rfl, rfl⟩
  rw [HA.out]
  go_wp2_with fail
  refine still_lit mixed' (by kernel_rfl) ?_
  repeat still_step
  still_call (HBL.out _)
  repeat still_step
  refine wpStill_nil ?_
  clear d1 d2 hx v1 v2 v3
  go_wp2
  go_ret2
  exact ⟨rfl, hb0.drew⟩

set_option maxRecDepth 100000 in
set_option maxHeartbeats 2000000 in
theorem meet_bad (seg size s t : Int) (w : World) (h : ¬ (okB seg size = true ∧ inR size s = true ∧ inR size t = true)) : Calls Try.prog 18 #[.int .i64 seg, .int .i64 size, .int .i64 s, .int .i64 t] w fun e w' => e = .returned (.tuple #[.int .i64 0, .int .i64 2]) ∧ Below w.heap.size w w' := by
  have HA := Lib.hid (show askedV seg size [s, t] = (0, 2) from if_neg (fun g => h ⟨g.1, by simpa using g.2⟩))
  have hb0 : Below w.heap.size w (w.alloc (.cells #[.int .i64 s, .int .i64 t] 3)) := (Below.refl _ w).alloc (Nat.le_refl _) _
  clear h
  go_enter Try.func18, Try.ntmps18
  go_wp2_with fail
  refine (asked_two _ _ _ _ _).mono ?_
  rintro e w' ⟨rfl, rfl⟩
  rw [HA.out]
  go_wp2
  go_ret2
  exact ⟨rfl, hb0⟩
theorem Meet_any (seg size s t : Int) (w : World) : Calls Try.prog 18 #[.int .i64 seg, .int .i64 size, .int .i64 s, .int .i64 t] w fun e w' => e = .returned (.tuple #[.int .i64 (meetV seg size s t).1, .int .i64 (meetV seg size s t).2]) ∧ Below w.heap.size w w' := by
  by_cases h : okB seg size = true ∧ inR size s = true ∧ inR size t = true
  · obtain ⟨a, c, s', t', h1, h2, h3, h4, q1, q2, q3, b1, b2, h5⟩ := meet_V h
    rw [h5, h1, h2, h3, h4]
    exact meet_ok a c s' t' w q1 q2 q3 b1 b2
  · rw [show meetV seg size s t = (0, 2) from if_neg h]
    exact meet_bad seg size s t w h

set_option maxRecDepth 100000 in
set_option maxHeartbeats 2000000 in
theorem refMeet_ok (a c s t : Nat) (w : World) (q1 : 2 ≤ a) (q2 : a ≤ 6) (q3 : a + c ≤ 16) (hs : s < 2 ^ (a + c)) (ht : t < 2 ^ (a + c)) : Calls Try.prog 19 #[.int .i64 ((2 ^ a : Nat) : Int), .int .i64 ((2 ^ (a + c) : Nat) : Int), .int .i64 s, .int .i64 t] w fun e w' => e = .returned (.tuple #[.int .i64 ((meetN a s t : Nat) : Int), .int .i64 0]) ∧ w = w' := by
  have hin : inR ((2 ^ (a + c) : Nat) : Int) (s : Int) = true := inR_iff.2 ⟨by omega, Int.ofNat_lt.2 hs⟩
  have HA : Hid (∀ w, Calls Try.prog 27 #[.int .i64 ((2 ^ a : Nat) : Int), .int .i64 ((2 ^ (a + c) : Nat) : Int), .int .i64 0, .int .i64 s] w fun e w' => e = .returned (.int .i64 0) ∧ w = w') := Lib.hid (fun w => by
    have := refAsked_any ((2 ^ a : Nat) : Int) ((2 ^ (a + c) : Nat) : Int) 0 s w
    rw [if_pos (askA_iff.2 ⟨okB_of q1 q2 q3, hin, Int.le_refl _, by omega⟩)] at this
    exact this)
  have hs16 : 2 ^ (a + c) ≤ 65536 := Nat.le_trans (Nat.pow_le_pow_right (by decide) q3) (by decide)
  have hmc := meet_le a c s t hs ht q3
  have HI := Lib.hid (fun k => meet_iff a k s t (by omega) (by omega))
  have HO := Lib.hid (fun (x h : Nat) (hh : h ≤ c) (hx : x < 2 ^ (a + c)) w => refOf_any a h x w (by omega) (by omega))
  have HS : Hid (∀ h, h ≤ c → ∀ w, Calls Try.prog 28 #[.int .i64 ((2 ^ a : Nat) : Int), .int .i64 h, .int .i64 s] w fun e w' => e = .returned (.tuple #[.int .i64 ((lowW (a + h) s : Nat) : Int), .int .i64 ((lowW (a + h) s + 2 ^ (a + h) : Nat) : Int)]) ∧ w = w') := Lib.hid (fun h hh w => HO.out s h hh hs w)
  have HT : Hid (∀ h, h ≤ c → ∀ w, Calls Try.prog 28 #[.int .i64 ((2 ^ a : Nat) : Int), .int .i64 h, .int .i64 t] w fun e w' => e = .returned (.tuple #[.int .i64 ((lowW (a + h) t : Nat) : Int), .int .i64 ((lowW (a + h) t + 2 ^ (a + h) : Nat) : Int)]) ∧ w = w') := Lib.hid (fun h hh w => HO.out t h hh ht w)
  clear hin HO hs
  generalize meetN a s t = M at *
  generalize (2 ^ (a + c) : Nat) = pn at *
  generalize hpa : (2 ^ a : Nat) = pa at *
  clear hpa
  have htn : decide ((t : Int) < 0) = false := decide_eq_false (by omega)
  have htn2 : decide ((pn : Int) ≤ (t : Int)) = false := decide_eq_false (by omega)
  have htn3 : decide (pn ≤ t) = false := decide_eq_false (by omega)
  have HTN := Lib.hid ht
  clear ht
  go_enter Try.func19, Try.ntmps19
  go_wp2_with fail
  refine (HA.out _).mono ?_
  rintro e w' ⟨rfl, rfl⟩
  go_wp2_with fail
  go_loop [11, 12, 13, 14, 15] (fun i _ _ _ _ => ∃ k : Nat, k ≤ M ∧ i = .int .i64 k) (fun i _ _ _ _ => M - (intOf i).toNat)
  case atStart => exact ⟨0, Nat.zero_le _, rfl⟩
  case round =>
    obtain ⟨k, hk, rfl⟩ := hrel
    have HSk := Lib.hid (HS.out k (by omega))
    have HTk := Lib.hid (HT.out k (by omega))
    have HIk := Lib.hid (HI.out k)
    generalize lowW (a + k) s = x at *
    generalize lowW (a + k) t = y at *
    generalize x + 2 ^ (a + k) = x2 at *
    generalize y + 2 ^ (a + k) = y2 at *
    by_cases hm : M ≤ k
    · have hxy := HIk.out.2 hm
      have hb : ((x : Int) == (y : Int)) = true := by rw [beq_iff_eq, hxy]
      clear hxy
      have hkm : k = M := by omega
      have HKM := Lib.hid hkm
      clear hkm
      go_wp2_with fail
      refine (HSk.out _).mono ?_
      rintro e w' ⟨rfl, rfl⟩
      go_wp2_with fail
      refine (HTk.out _).mono ?_
      rintro e w' ⟨rfl, rfl⟩
      go_wp2
      go_ret2
      exact ⟨ret_ii (by rw [HKM.out]) rfl, rfl⟩
    · have hb : ((x : Int) == (y : Int)) = false := by
        rw [beq_eq_false_iff_ne]
        intro g
        exact hm (HIk.out.1 (by omega))
      go_wp2_with fail
      refine (HSk.out _).mono ?_
      rintro e w' ⟨rfl, rfl⟩
      go_wp2_with fail
      refine (HTk.out _).mono ?_
      rintro e w' ⟨rfl, rfl⟩
      go_wp2
      go_round
      case rel => exact ⟨k + 1, by omega, by go_num⟩
      case measure => simp [intOf]; omega

set_option maxRecDepth 100000 in
set_option maxHeartbeats 2000000 in
theorem refMeet_bad (seg size s t : Int) (w : World) (h : ¬ (okB seg size = true ∧ inR size s = true ∧ inR size t = true)) : Calls Try.prog 19 #[.int .i64 seg, .int .i64 size, .int .i64 s, .int .i64 t] w fun e w' => e = .returned (.tuple #[.int .i64 0, .int .i64 2]) ∧ w = w' := by
  by_cases h1 : askA seg size 0 s = true
  · have h2 : ¬ (0 ≤ t ∧ t < size) := fun g => h ⟨(askA_iff.1 h1).1, (askA_iff.1 h1).2.1, inR_iff.2 g⟩
    have HA : Hid (∀ w, Calls Try.prog 27 #[.int .i64 seg, .int .i64 size, .int .i64 0, .int .i64 s] w fun e w' => e = .returned (.int .i64 0) ∧ w = w') := Lib.hid (fun w => by
      have := refAsked_any seg size 0 s w
      rw [if_pos h1] at this
      exact this)
    clear h h1
    by_cases h3 : t < 0
    · clear h2
      go_enter Try.func19, Try.ntmps19
      go_wp2_with fail
      refine (HA.out _).mono ?_
      rintro e w' ⟨rfl, rfl⟩
      go_wp2
      go_ret2
      exact ⟨rfl, rfl⟩
    · have h4 : size ≤ t := by omega
      clear h2
      go_enter Try.func19, Try.ntmps19
      go_wp2_with fail
      refine (HA.out _).mono ?_
      rintro e w' ⟨rfl, rfl⟩
      go_wp2
      go_ret2
      exact ⟨rfl, rfl⟩
  · have HA : Hid (∀ w, Calls Try.prog 27 #[.int .i64 seg, .int .i64 size, .int .i64 0, .int .i64 s] w fun e w' => e = .returned (.int .i64 2) ∧ w = w') := Lib.hid (fun w => by
      have := refAsked_any seg size 0 s w
      rw [if_neg h1] at this
      exact this)
    clear h h1
    go_enter Try.func19, Try.ntmps19
    go_wp2_with fail
    refine (HA.out _).mono ?_
    rintro e w' ⟨rfl, rfl⟩
    go_wp2
    go_ret2
    exact ⟨rfl, rfl⟩
theorem refMeet_any (seg size s t : Int) (w : World) : Calls Try.prog 19 #[.int .i64 seg, .int .i64 size, .int .i64 s, .int .i64 t] w fun e w' => e = .returned (.tuple #[.int .i64 (meetV seg size s t).1, .int .i64 (meetV seg size s t).2]) ∧ w = w' := by
  by_cases h : okB seg size = true ∧ inR size s = true ∧ inR size t = true
  · obtain ⟨a, c, s', t', h1, h2, h3, h4, q1, q2, q3, b1, b2, h5⟩ := meet_V h
    rw [h5, h1, h2, h3, h4]
    exact refMeet_ok a c s' t' w q1 q2 q3 b1 b2
  · rw [show meetV seg size s t = (0, 2) from if_neg h]
    exact refMeet_bad seg size s t w h

end Go.Proofs.Ytogbkhlbmchjlaa.Win
