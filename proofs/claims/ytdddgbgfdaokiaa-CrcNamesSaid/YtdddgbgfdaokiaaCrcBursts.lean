/- The law CrcBursts: a walk. -/
import Derived.Test.YtdddgbgfdaokiaaCrcGoes
import Derived.Test.YtdddgbgfdaokiaaCrcLin
namespace Go.Proofs.Ytdddgbgfdaokiaa.Crc
open Go.RowKit Go.Proofs.Ytdddgbgfdaokiaa

theorem burst_cases (zs : List Int) (hz : Bytes zs) (hl : zs.length ≤ 1500) (p : Int) (m : Nat) (hm : m < 4294967296) :
    burstV (sealed zs) p m = ([], 2) ∨ ∃ X, burstV (sealed zs) p m = (X, 0) ∧ X.length = (sealed zs).length ∧ Bytes X ∧ burstV X p m = (sealed zs, 0) ∧ (m = 0 → openV X = (zs, 0)) ∧ (m ≠ 0 → openV X = ([], 8)) := by
  have hT : Bytes (sealed zs) := hz.sealed
  have hTl := sealed_length zs
  have hTo := openV_sealed zs (by omega)
  have hTb := sealed_behind zs hz
  generalize sealed zs = T at *
  have h1 : ¬ 1048576 < T.length := by omega
  by_cases hn : p < 0
  · exact .inl (burstV_neg h1 hn)
  obtain ⟨q, rfl⟩ := Int.eq_ofNat_of_zero_le (Int.not_lt.1 hn)
  by_cases hf : Fits T.length q m
  · right
    have hx : num T ^^^ m * 2 ^ q < 2 ^ (8 * T.length) := Nat.xor_lt_two_pow (num_lt T hT) hf
    have e1 := burstV_ok (t := T) (cs := digits T.length (num T ^^^ m * 2 ^ q)) h1 hf (digits_length _ _) (digits_range _ _) (digits_num _ _ hx)
    have hXl := digits_length T.length (num T ^^^ m * 2 ^ q)
    have hXb : Bytes (digits T.length (num T ^^^ m * 2 ^ q)) := digits_range _ _
    have hXn := digits_num _ _ hx
    generalize digits T.length (num T ^^^ m * 2 ^ q) = X at *
    refine ⟨X, e1, hXl, hXb, ?_, ?_, ?_⟩
    · exact burstV_ok (t := X) (cs := T) (by omega) (by rw [hXl]; exact hf) hXl.symm hT (by rw [hXn, Nat.xor_assoc, Nat.xor_self, Nat.xor_zero])
    · intro h0
      subst h0
      rw [Nat.zero_mul, Nat.xor_zero] at hXn
      have : X = T := by rw [← num_digits X hXb, ← num_digits T hT, hXl, hXn]
      rw [this]; exact hTo
    · intro h0
      refine openV_bad (by omega) (.inr fun hs => ?_)
      have hb := burst_found T X q m hT hXb hXl hXn hf h0 hm
      rw [hTb] at hb
      have hr : ∀ z ∈ X.take (X.length - 4), 0 ≤ z ∧ z < 256 := fun z hz => hXb z (List.mem_of_mem_take hz)
      have := sealed_behind (X.take (X.length - 4)) hr
      rw [hs] at this
      exact hb this.symm
  · exact .inl (burstV_out h1 hf)

set_option maxRecDepth 100000 in
set_option maxHeartbeats 4000000 in
theorem crcBursts (a : Option Addr) (la ca : Nat) (za : List Int) (p m : Int) (w : World) (wa : Opn.IsRow .u8 w a la ca za) (wp : (Lit.int .i64 p).wf = true) (wm : (Lit.int .u32 m).wf = true) :
    Calls Try.prog 8 #[.slice a la ca, .int .i64 p, .int .u32 m] w fun e w' => e = .returned (.bool true) ∧ Below w.heap.size w w' := by
  obtain ⟨m0, m1⟩ := u32_of wm
  obtain ⟨p0, p1⟩ := bd64 wp
  obtain ⟨zs, rfl, hr, hz, hn, _, _⟩ := arg_of wa
  have HB : Hid ((-9223372036854775808 ≤ p ∧ p ≤ 9223372036854775807) ∧ (0 ≤ m ∧ m < 4294967296) ∧ m.toNat < 4294967296) := Lib.hid ⟨⟨p0, p1⟩, ⟨m0, m1⟩, by omega⟩
  clear wa wp wm p0 p1 m0 m1
  go_enter Try.func8, Try.ntmps8
  go_wp2_with fail
  refine (alive_any w).mono ?_
  rintro e w1 ⟨rfl, hb1⟩
  have hr1 := hr.mono hb1 (Nat.le_refl _)
  have HB1 := Lib.hid hb1
  clear hr hb1
  by_cases hl : 1500 < zs.length
  · clear hr1
    go_wp2
    go_ret
    exact ⟨rfl, HB1.out⟩
  have HS := Lib.hid (sealV_lo (zs := zs) (by omega))
  have HSL := Lib.hid (sealed_length zs)
  have HSB : Hid (Bytes (sealed zs)) := Lib.hid hz.sealed
  have HC := Lib.hid (burst_cases zs hz (by omega) p m.toNat HB.out.2.2)
  go_wp2_with fail
  refine (seal_any a ca zs w1 hz hr1 (by omega)).mono ?_
  rintro e w2 ⟨v2, rfl, hv2, hb2⟩
  rw [HS.out] at hv2 ⊢
  obtain ⟨a2, c2, rfl, _, ho2, hc2, _, _⟩ := owns_arg hv2
  have hr2 := hr1.mono hb2 (Nat.le_refl _)
  have HB2 := Lib.hid (bstep HB1.out hb2)
  clear hb2 hr1 hv2
  go_wp2_with fail
  refine (burst_any a2 c2 (sealed zs) p m w2 HSB.out ho2 (by rw [HSL.out]; omega) HB.out.1.1 HB.out.1.2 HB.out.2.1.1 HB.out.2.1.2).mono ?_
  rintro e w3 ⟨v3, rfl, hv3, hb3⟩
  have HB3 := Lib.hid (bstep HB2.out hb3)
  rcases HC.out with he | ⟨X, he, hXl, hXb, hback, hzero, hbad⟩
  · rw [he] at hv3 ⊢
    obtain ⟨a3, c3, rfl, _, _, _⟩ := owns_arg hv3
    clear hv3 hb3 ho2 hr2 HC
    go_wp2
    go_ret
    exact ⟨rfl, HB3.out⟩
  rw [he] at hv3 ⊢
  obtain ⟨a3, c3, rfl, _, ho3, hc3, _, _⟩ := owns_arg hv3
  have ht3 := ho2.mono hb3 (Nat.le_refl _)
  have hr3 := hr2.mono hb3 (Nat.le_refl _)
  have HXL := Lib.hid hXl
  have HK := Lib.hid hback
  have HZ := Lib.hid hzero
  have HD := Lib.hid hbad
  clear hv3 hb3 ho2 hr2 HC he hback hzero hbad hXl
  go_wp2_with fail
  refine (burst_any a3 c3 X p m w3 hXb ho3 (by rw [HXL.out, HSL.out]; omega) HB.out.1.1 HB.out.1.2 HB.out.2.1.1 HB.out.2.1.2).mono ?_
  rintro e w4 ⟨v4, rfl, hv4, hb4⟩
  rw [HK.out] at hv4 ⊢
  obtain ⟨a4, c4, rfl, _, ho4, _⟩ := owns_arg hv4
  have ht4 := ht3.mono hb4 (Nat.le_refl _)
  have hr4 := hr3.mono hb4 (Nat.le_refl _)
  have ho34 := ho3.mono hb4 (Nat.le_refl _)
  have HB4 := Lib.hid (bstep HB3.out hb4)
  have hq1 := conv_rd (n := (sealed zs).length) (cap := c4) ho4 rfl
  have hq2 := conv_rd (n := (sealed zs).length) (cap := c2) ht4 rfl
  clear hv4 hb4 ht3 hr3 ho3 ht4 ho4
  have hlx : (X.length : Int) = ((sealed zs).length : Int) := by rw [HXL.out]
  by_cases hm : m = 0
  · have hO := HZ.out (by rw [hm]; rfl)
    subst hm
    go_wp2_with fail
    refine (open_any a3 c3 X w4 hXb ho34 (by rw [HXL.out, HSL.out]; omega) hc3).mono ?_
    rintro e w5 ⟨v5, rfl, hv5, hb5⟩
    rw [hO] at hv5 ⊢
    obtain ⟨a5, c5, rfl, _, ho5, _⟩ := owns_arg hv5
    have hr5 := hr4.mono hb5 (Nat.le_refl _)
    have HB5 := Lib.hid (bstep HB4.out hb5)
    have hq3 := conv_rd (n := zs.length) (cap := c5) ho5 rfl
    have hq4 := conv_rd (n := zs.length) (cap := ca) hr5 rfl
    clear hv5 hb5 hr4 ho34 ho5 hr5 hq1 hq2
    go_wp2
    go_ret
    exact ⟨by simp, HB5.out⟩
  · have hO := HD.out (by have := HB.out.2.1.1; omega)
    have hmb : (m == 0) = false := by rw [beq_eq_false_iff_ne]; exact hm
    go_wp2_with fail
    refine (open_any a3 c3 X w4 hXb ho34 (by rw [HXL.out, HSL.out]; omega) hc3).mono ?_
    rintro e w5 ⟨v5, rfl, hv5, hb5⟩
    rw [hO] at hv5 ⊢
    obtain ⟨a5, c5, rfl, _, ho5, _⟩ := owns_arg hv5
    have HB5 := Lib.hid (bstep HB4.out hb5)
    clear hv5 hb5 hr4 ho34 ho5 hq1 hq2
    go_wp2
    go_ret
    exact ⟨by simp, HB5.out⟩

end Go.Proofs.Ytdddgbgfdaokiaa.Crc
