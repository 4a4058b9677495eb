/- Contracts of the document's answer for crc: Open, Burst. -/
import Derived.Test.YtdddgbgfdaokiaaCrc8
namespace Go.Proofs.Ytdddgbgfdaokiaa.Crc
open Go.RowKit Go.Proofs.Ytdddgbgfdaokiaa

theorem isV_openV {t : List Int} (h : ¬ 1048576 < t.length) : openV t = if isV t then (t.take (t.length - 4), 0) else ([], 8) := by
  unfold openV isV
  rw [if_neg h]
  by_cases h4 : t.length < 4
  · simp [h4]
  · by_cases hs : sealed (t.take (t.length - 4)) = t <;> simp [h4, hs]
theorem isV_len {t : List Int} (h : isV t = true) : ¬ t.length < 4 := by unfold isV at h; simp at h; omega

set_option maxRecDepth 100000 in
set_option maxHeartbeats 2000000 in
theorem refOpen_any (a : Option Addr) (cap : Nat) (zs : List Int) (w : World) (hz : Bytes zs) (hr : Rd .u8 w a zs) (hn : a = Option.none → cap = 0) (hl : zs.length ≤ 9223372036854775807) (hc : zs.length ≤ cap) :
    Calls Try.prog 17 #[.slice a zs.length cap] w fun e w' => Ans (openV zs) w e w' := by
  obtain ⟨i0, hi, hz0, hz1, hz2⟩ := info_parts info8
  by_cases h : 1048576 < zs.length
  · have H := Lib.hid (openV_hi h)
    go_enter Try.func17, Try.ntmps17
    go_wp2
    go_ret2
    exact Ans.nil H.out (Below.refl _ _)
  have HI := Lib.hid (isV_openV h)
  by_cases hs : isV zs = true
  · have H : Hid (openV zs = (zs.take (zs.length - 4), 0)) := Lib.hid (by rw [HI.out, if_pos hs])
    have h4 := isV_len hs
    have hlen : (zs.take (zs.length - 4)).length = zs.length - 4 := by rw [List.length_take]; omega
    have ht := hr.take (zs.length - 4)
    generalize zs.take (zs.length - 4) = ts at *
    have HL := Lib.hid hlen
    go_enter Try.func17, Try.ntmps17
    go_wp2_with fail
    refine (refIs_any a cap zs w hz hr hn (by omega) hc).mono ?_
    rintro e w1 ⟨rfl, hb⟩
    rw [hs]
    have ht1 := ht.mono hb (Nat.le_refl _)
    have HB := Lib.hid hb
    clear hb HI
    go_wp2_with (at_builtin; rw [← HL.out]; refine wpList_append_copy (k := .u8) rfl _ _ 23 5 rfl i0 1 Try.underlying23 hi hz0 hz1 hz2 a cap ts rfl rfl ht1 hn (by unfold maxLen; omega) (by omega) ?_)
    intro v w2 hv hb
    have HV := Lib.hid (hv.mono HB.out.size)
    have HB2 := Lib.hid (bstep HB.out hb)
    clear hv hb
    go_wp2
    go_ret2
    refine Ans.some H.out ?_ HB2.out
    have := HV.out
    rw [← HL.out] at this
    exact this
  · have H : Hid (openV zs = ([], 8)) := Lib.hid (by rw [HI.out, if_neg hs])
    go_enter Try.func17, Try.ntmps17
    go_wp2_with fail
    refine (refIs_any a cap zs w hz hr hn (by omega) hc).mono ?_
    rintro e w1 ⟨rfl, hb⟩
    rw [Bool.not_eq_true _ |>.mp hs]
    go_wp2
    go_ret2
    exact Ans.nil H.out hb

theorem fits_even {n q m : Nat} (h : ¬ m % 2 = 1) : Fits n q m ↔ Fits n (q + 1) (m / 2) := by unfold Fits; rw [even_mask m q h]
theorem fits_odd {n q m : Nat} (hq : q < 8 * n) : Fits n q m ↔ Fits n (q + 1) (m / 2) := by
  refine ⟨Fits.half, fun h => ?_⟩
  unfold Fits at *
  have e : 2 ^ (8 * n) = 2 ^ (8 * n - (q + 1)) * 2 ^ (q + 1) := by rw [← Nat.pow_add]; congr 1; omega
  have h2 : m / 2 < 2 ^ (8 * n - (q + 1)) := by
    rw [e] at h
    exact Nat.lt_of_mul_lt_mul_right h
  have e2 : 2 ^ (8 * n) = 2 ^ (8 * n - (q + 1)) * 2 * 2 ^ q := by rw [e, Nat.pow_succ, Nat.mul_assoc, Nat.mul_comm 2]
  rw [e2]
  exact Nat.mul_lt_mul_of_pos_right (by omega) (Nat.pow_pos (by decide))
theorem fits_zero (n q : Nat) : Fits n q 0 := by unfold Fits; rw [Nat.zero_mul]; exact Nat.pow_pos (by decide)
theorem mask_k {m m0 k : Nat} (h : m * 2 ^ k ≤ m0) (h0 : m0 < 4294967296) (hm : m ≠ 0) : k < 32 := by
  have h2 : 2 ^ k ≤ m * 2 ^ k := Nat.le_mul_of_pos_left _ (by omega)
  exact (Nat.pow_lt_pow_iff_right (a := 2) (by decide)).1 (show 2 ^ k < 2 ^ 32 by omega)
theorem pow_dbl {j : Nat} (h : j < 7) : 2 ^ j ≤ 64 ∧ 2 ^ (j + 1) = 2 * 2 ^ j := by
  refine ⟨?_, by rw [Nat.pow_succ, Nat.mul_comm]⟩
  have : 2 ^ j ≤ 2 ^ 6 := Nat.pow_le_pow_right (by decide) (by omega)
  exact this

set_option maxRecDepth 100000 in
set_option maxHeartbeats 4000000 in
theorem refBurst_any (a : Option Addr) (cap : Nat) (zs : List Int) (p m : Int) (w : World) (hz : Bytes zs) (hr : Rd .u8 w a zs) (hn : a = Option.none → cap = 0) (hl : zs.length ≤ 9223372036854775807) (hp0 : -9223372036854775808 ≤ p) (hp1 : p ≤ 9223372036854775807) (hm0 : 0 ≤ m) (hm1 : m < 4294967296) :
    Calls Try.prog 19 #[.slice a zs.length cap, .int .i64 p, .int .u32 m] w fun e w' => Ans (burstV zs p m.toNat) w e w' := by
  obtain ⟨i0, hi, hz0, hz1, hz2⟩ := info_parts info8
  obtain ⟨m, rfl⟩ := Int.eq_ofNat_of_zero_le hm0
  rw [Int.toNat_natCast]
  have hm : m < 4294967296 := by omega
  clear hm0 hm1
  by_cases h : 1048576 < zs.length
  · have H := Lib.hid (burstV_hi (p := p) (m := m) h)
    go_enter Try.func19, Try.ntmps19
    go_wp2
    go_ret2
    exact Ans.nil H.out (Below.refl _ _)
  by_cases hneg : p < 0
  · have H := Lib.hid (burstV_neg (m := m) h hneg)
    go_enter Try.func19, Try.ntmps19
    go_wp2
    go_ret2
    exact Ans.nil H.out (Below.refl _ _)
  obtain ⟨p, rfl⟩ := Int.eq_ofNat_of_zero_le (Int.not_lt.1 hneg)
  clear hneg hp0
  have HX := Lib.hid (fun cs hf h1 h2 h3 => burstV_ok (t := zs) (cs := cs) (p := p) (m := m) h hf h1 h2 h3)
  have HY := Lib.hid (fun hf => burstV_out (t := zs) (p := p) (m := m) h hf)
  have hbig : zs.length ≤ 1048576 := by omega
  have hpn : ¬ (p : Int) < 0 := by omega
  go_enter Try.func19, Try.ntmps19
  go_wp2_with (at_builtin; refine wpList_append_copy (k := .u8) rfl _ _ 23 5 rfl i0 1 Try.underlying23 hi hz0 hz1 hz2 a cap zs rfl rfl hr hn (by unfold maxLen; omega) (by omega) ?_)
  intro v w1 hv hb
  have HS : Hid (Turned w w.heap.size v zs.length (num zs ^^^ m * 2 ^ p) (p + 0) m w1) := Lib.hid ⟨zs, rfl, hz, rfl, hv, hb⟩
  have H1 : Hid (m * 2 ^ 0 ≤ m) := Lib.hid (by simp)
  clear hv hb hr
  generalize num zs ^^^ m * 2 ^ p = X at *
  go_wp2
  go_loopw [2, 9, 10, 11] (fun y x _ _ wr => ∃ k m' : Nat, x = .int .i64 k ∧ y = .int .u32 m' ∧ k ≤ 32 ∧ m' * 2 ^ k ≤ m ∧ m' < 4294967296 ∧ (Fits zs.length p m ↔ Fits zs.length (p + k) m') ∧ Turned w w.heap.size v zs.length X (p + k) m' wr) (fun y _ _ _ _ => (intOf y).toNat)
  case atStart => exact ⟨0, m, rfl, rfl, by omega, H1.out, hm, Iff.rfl, HS.out⟩
  case round =>
    obtain ⟨k, m', rfl, rfl, hk32, hmk, hmm, hff, ⟨cs, hcl, hcb, hcx, hown, hbl⟩⟩ := hrel
    clear HS H1
    by_cases hz' : m' = 0
    · subst hz'
      have H := Lib.hid (HX.out cs (hff.2 (fits_zero _ _)) hcl hcb (by rw [← hcx, Nat.zero_mul, Nat.xor_zero]))
      have HO := Lib.hid hown
      clear hown hcx hff hmk
      go_wp2
      go_ret2
      exact Ans.some H.out (by rw [hcl]; exact HO.out) hbl
    have hk := mask_k hmk hm hz'
    have hz2' : 0 < m' := by omega
    have HMK := Lib.hid (Nat.le_trans (half_mask m' k) hmk)
    by_cases hodd : m' % 2 = 1
    · have ho : ((m' : Int) % 2 == 1) = true := by rw [beq_iff_eq]; omega
      by_cases hq : p + k < 8 * zs.length
      · have hd : ¬ 8 * (zs.length : Int) - (k : Int) ≤ (p : Int) := by omega
        obtain ⟨g, c, rfl, hg0, hg1⟩ := hown.form (by omega)
        generalize hQ : p + k = q at *
        have hj : q / 8 < zs.length := by omega
        have hcell := hown.cellAt (q / 8) (by omega)
        have hfr := hown.frozenAt (q / 8)
        rw [show (nums8 cs)[q / 8]? = some (.int .u8 (cs.getD (q / 8) 0)) by simp [List.getD_eq_getElem?_getD, show q / 8 < cs.length by omega]] at hcell
        have hqj : ((p : Int) + (k : Int)) / 8 = ((q / 8 : Nat) : Int) := by omega
        have hqb : ((p : Int) + (k : Int)) % 8 = ((q % 8 : Nat) : Int) := by omega
        have hb8 : q % 8 < 8 := by omega
        have hz2 := hcb.at (k := q / 8) (by omega)
        have HXP := Lib.hid (xor_u8 (y := 2 ^ (q % 8)) hz2.1 hz2.2 (pow8 _ hb8))
        have HO := Lib.hid (hown.stored (q / 8) (.int .u8 ((((cs.getD (q / 8) 0).toNat ^^^ 2 ^ (q % 8) : Nat) : Int)))).1
        have HF : Hid (nums8 (flip cs q) = (nums8 cs).set (q / 8) (.int .u8 ((((cs.getD (q / 8) 0).toNat ^^^ 2 ^ (q % 8) : Nat) : Int)))) := Lib.hid (by rw [nums8_set]; rfl)
        have HFL := Lib.hid ((flip_length cs q).trans hcl)
        have HFB : Hid (Bytes (flip cs q)) := Lib.hid (flip_range cs q hcb)
        have HN : Hid (num (flip cs q) ^^^ m' / 2 * 2 ^ (q + 1) = X) := Lib.hid (by rw [num_flip cs q hcb (by omega), Nat.xor_assoc, ← odd_mask m' q hodd]; exact hcx)
        have HBL := Lib.hid ((hbl.grown (hown.stored (q / 8) (.int .u8 ((((cs.getD (q / 8) 0).toNat ^^^ 2 ^ (q % 8) : Nat) : Int)))).2 hbl.size (by intro k hk; cases hk; exact hg0)))
        have HFF : Hid (Fits zs.length p m ↔ Fits zs.length (q + 1) (m' / 2)) := Lib.hid (hff.trans (fits_odd hq))
        have HQ : Hid (q + 1 = p + (k + 1)) := Lib.hid (by omega)
        generalize flip cs q = fs at *
        generalize q / 8 = j at hj hcell hfr hqj HXP HO HF HBL
        generalize q % 8 = b at hqb hb8 HXP HO HF HBL
        generalize cs.getD j 0 = z at hcell hz2 HXP HO HF HBL
        have hz3 := hz2.1
        have hz4 := hz2.2
        clear hown hcx hff hmk hz2 hQ HX HY
        have H0 : Hid (((2 ^ 0 : Nat) : Int) = 1) := Lib.hid (by simp)
        go_wp2_with fail
        go_loop [10, 11] (fun o i => ∃ e : Nat, e ≤ b ∧ i = .int .i64 e ∧ o = .int .u8 ((2 ^ e : Nat) : Int)) (fun _ i => b - (intOf i).toNat)
        case atStart => exact ⟨0, by omega, rfl, by rw [H0.out]⟩
        case round =>
          obtain ⟨e, he, rfl, rfl⟩ := hrel
          by_cases heb : e < b
          · have hp2 := pow_dbl (j := e) (by omega)
            have HP := Lib.hid hp2.2
            have hp3 := hp2.1
            clear hp2
            generalize 2 ^ e = y at *
            go_wp2
            go_round
            case rel => exact ⟨e + 1, by omega, by go_num, by rw [HP.out]; go_num⟩
            case measure => simp [intOf]; omega
          · obtain rfl : e = b := by omega
            have hp8 := pow8 e hb8
            generalize 2 ^ e = y at *
            have hxp := HXP.out
            go_wp2
            go_roundw
            case rel => exact ⟨k + 1, m' / 2, by go_num, by go_num, by omega, HMK.out, by omega, by rw [← HQ.out]; exact HFF.out, fs, HFL.out, HFB.out, by rw [← HQ.out]; exact HN.out, by rw [HF.out]; exact HO.out, HBL.out⟩
            case measure => simp [intOf]; omega
      · have H := Lib.hid (HY.out (fun g => hq ((hff.1 g).lt hz')))
        have hd : 8 * (zs.length : Int) - (k : Int) ≤ (p : Int) := by omega
        clear hown hcx hff hmk HMK
        go_wp2
        go_ret2
        exact Ans.nil H.out hbl
    · have ho : ((m' : Int) % 2 == 1) = false := by rw [beq_eq_false_iff_ne]; omega
      have HFF : Hid (Fits zs.length p m ↔ Fits zs.length (p + (k + 1)) (m' / 2)) := Lib.hid (hff.trans (fits_even hodd))
      have HT : Hid (num cs ^^^ m' / 2 * 2 ^ (p + (k + 1)) = X) := Lib.hid (by rw [show p + (k + 1) = p + k + 1 by omega, ← even_mask m' (p + k) hodd]; exact hcx)
      have HO := Lib.hid hown
      clear hown hcx hff hmk
      go_wp2
      go_roundw
      case rel => exact ⟨k + 1, m' / 2, by go_num, by go_num, by omega, HMK.out, by omega, HFF.out, cs, hcl, hcb, HT.out, HO.out, hbl⟩
      case measure => simp [intOf]; omega

end Go.Proofs.Ytdddgbgfdaokiaa.Crc
