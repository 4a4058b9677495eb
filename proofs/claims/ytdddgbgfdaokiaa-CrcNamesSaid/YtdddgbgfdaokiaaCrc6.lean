/- Contract of crc's Burst. -/
import Derived.Test.YtdddgbgfdaokiaaCrc5
import Derived.Test.YtdddgbgfdaokiaaCrcNum
import Derived.Lib.BitFns
import Derived.Deep.AppendLies
import Derived.RegionTactic
import Derived.BigRegion
namespace Go.Proofs.Ytdddgbgfdaokiaa.Crc
open Go.RowKit Go.Proofs.Ytdddgbgfdaokiaa

theorem log2_step {n : Nat} (h : 2 ≤ n) : n.log2 = (n / 2).log2 + 1 := by
  rw [Nat.log2_def n, if_pos h]
theorem log2_small {n : Nat} (h : n < 2) : n.log2 = 0 := by
  rw [Nat.log2_def n, if_neg (by omega)]
theorem bitLenAux_log (f x : Nat) (h : x < 2 ^ f) : Lib.bitLenAux f x = if x = 0 then 0 else x.log2 + 1 := by
  induction f generalizing x with
  | zero => have : x = 0 := by simpa using h
            subst this; rfl
  | succ f ih =>
    unfold Lib.bitLenAux
    by_cases hx : x = 0
    · rw [if_pos hx, if_pos hx]
    · rw [if_neg hx, if_neg hx, ih (x / 2) (by rw [Nat.pow_succ] at h; omega)]
      by_cases h2 : x < 2
      · rw [if_pos (by omega), log2_small h2]
      · rw [if_neg (by omega), log2_step (n := x) (by omega)]; omega
theorem bitLen_log (x : Nat) (h : x < 18446744073709551616) : Lib.bitLen x = if x = 0 then 0 else x.log2 + 1 := bitLenAux_log 64 x h
theorem bitLen_fits {n p m : Nat} (hm : m ≠ 0) (h : m < 4294967296) : (Fits n p m ↔ p + Lib.bitLen m ≤ 8 * n) ∧ 1 ≤ Lib.bitLen m ∧ Lib.bitLen m ≤ 32 := by
  have e := bitLen_log m (by omega)
  rw [if_neg hm] at e
  have h1 : m < 2 ^ (m.log2 + 1) := Nat.lt_log2_self
  have h2 : 2 ^ m.log2 ≤ m := Nat.log2_self_le hm
  have h3 : m.log2 < 32 := (Nat.log2_lt hm).2 h
  rw [e]
  exact ⟨fits_len hm h1 (by rw [Nat.pow_succ]; omega), by omega, by omega⟩

theorem xor_u8 {z : Int} {y : Nat} (h0 : 0 ≤ z) (h1 : z < 256) (hy : y < 256) : bits .xor .u8 z (((y : Nat) : Int)) = ((z.toNat ^^^ y : Nat) : Int) := by
  obtain ⟨x, rfl⟩ := Int.eq_ofNat_of_zero_le h0
  have ha' : x % 2 ^ IntKind.u8.bits = x := Nat.mod_eq_of_lt (by simp [IntKind.bits]; omega)
  have hb' : y % 2 ^ IntKind.u8.bits = y := Nat.mod_eq_of_lt (by simpa [IntKind.bits] using hy)
  simp only [bits, BitVec.ofInt_natCast, BitVec.toNat_xor, BitVec.toNat_ofNat, ha', hb', Int.toNat_natCast]
  rw [IntKind.wrap_u8]
  have := xor_lt8 (a := x) (b := y) (by omega) hy
  omega
theorem xor_pow {z : Int} {b : Nat} (h0 : 0 ≤ z) (h1 : z < 256) (hb : b < 8) : bits .xor .u8 z ((2 : Int) ^ b % 256) = ((z.toNat ^^^ 2 ^ b : Nat) : Int) := by
  have e : (2 : Int) ^ b % 256 = ((2 ^ b : Nat) : Int) := by
    have h := pow8 b hb
    have h2 : ((2 ^ b : Nat) : Int) = (2 : Int) ^ b := by simp
    rw [← h2]
    clear h2
    generalize (2 : Nat) ^ b = y at *
    omega
  rw [e]
  exact xor_u8 h0 h1 (pow8 b hb)
theorem nums8_set (cs : List Int) (j : Nat) (x : Int) : (nums8 cs).set j (.int .u8 x) = nums8 (cs.set j x) := by unfold nums8; rw [List.map_set]

/-- The world of a loop that turns bits over. -/
def Turned (w0 : World) (B : Nat) (v : Value) (n X p m : Nat) (wr : World) : Prop :=
  ∃ cs : List Int, cs.length = n ∧ Bytes cs ∧ num cs ^^^ m * 2 ^ p = X ∧ wr.ownsRow B 5 1 v n (nums8 cs) ∧ Below B w0 wr

set_option maxRecDepth 100000 in
set_option maxHeartbeats 2000000 in
theorem burst_any (a : Option Addr) (cap : Nat) (zs : List Int) (p m : Int) (w : World) (hz : Bytes zs) (hr : Rd .u8 w a zs) (hl : zs.length ≤ 9223372036854775807) (hp0 : -9223372036854775808 ≤ p) (hp1 : p ≤ 9223372036854775807) (hm0 : 0 ≤ m) (hm1 : m < 4294967296) :
    Calls Try.prog 18 #[.slice a zs.length cap, .int .i64 p, .int .u32 m] w fun e w' => Ans (burstV zs p m.toNat) w e w' := by
  obtain ⟨m, rfl⟩ := Int.eq_ofNat_of_zero_le hm0
  rw [Int.toNat_natCast]
  have hm : m < 4294967296 := by omega
  clear hm0 hm1
  by_cases h : 1048576 < zs.length
  · have H := Lib.hid (burstV_hi (p := p) (m := m) h)
    have HM := Lib.hid (manyV_hi h)
    go_enter Try.func18, Try.ntmps18
    go_wp2_with fail
    refine wp_scope_straight ?_
    go_wp2_with fail
    refine (many_any a zs.length cap w hl).mono ?_
    rintro e w' ⟨rfl, rfl⟩
    rw [HM.out]
    go_wp2
    go_ret2
    exact Ans.nil H.out (Below.refl _ _)
  have HM := Lib.hid (manyV_lo h)
  by_cases hneg : p < 0
  · have H := Lib.hid (burstV_neg (m := m) h hneg)
    go_enter Try.func18, Try.ntmps18
    go_wp2_with fail
    refine wp_scope_straight ?_
    go_wp2_with fail
    refine (many_any a zs.length cap w hl).mono ?_
    rintro e w' ⟨rfl, rfl⟩
    rw [HM.out]
    go_wp2
    go_ret2
    exact Ans.nil H.out (Below.refl _ _)
  obtain ⟨p, rfl⟩ := Int.eq_ofNat_of_zero_le (Int.not_lt.1 hneg)
  clear hneg hp0
  by_cases hmz : m = 0
  · subst hmz
    have H := Lib.hid (burstV_ok (p := p) (m := 0) h (by unfold Fits; rw [Nat.zero_mul]; exact Nat.pow_pos (by decide)) rfl hz (by rw [Nat.zero_mul, Nat.xor_zero]))
    go_enter Try.func18, Try.ntmps18
    go_wp2_with fail
    refine wp_scope_straight ?_
    go_wp2_with fail
    refine (many_any a zs.length cap w hl).mono ?_
    rintro e w' ⟨rfl, rfl⟩
    rw [HM.out]
    go_wp2_with fail
    refine (clone_any a cap zs w hr (by omega)).mono ?_
    rintro e w1 ⟨v, rfl, hv, hb⟩
    have HV := Lib.hid hv
    clear hv
    go_wp2_with fail
    refine wp_label ?_
    go_wp2_with fail
    go_loopw [1, 2] (fun x y wr => x = .int .i64 p ∧ y = .int .u32 0 ∧ wr = w1) (fun x _ _ => 0)
    case atStart => exact ⟨rfl, rfl, rfl⟩
    case round =>
      obtain ⟨rfl, rfl, rfl⟩ := hrel
      go_wp2
      go_ret2
      exact Ans.some H.out HV.out hb
  have HF := Lib.hid (bitLen_fits (n := zs.length) (p := p) hmz hm)
  have HL : Hid (∀ w : World, Calls Try.prog 30 #[.int .u32 m] w fun e w' => e = .returned (.int .i64 (Lib.bitLen m)) ∧ w' = w) := Lib.hid (fun w : World => by
    have := Try.bits_Len32 (m : Int) w (by omega) (by omega)
    rw [Int.toNat_natCast] at this
    exact this)
  by_cases hf : Fits zs.length p m
  · have hlt := (HF.out.1.1 hf)
    have hb1 := HF.out.2
    have HX := Lib.hid (fun cs h1 h2 h3 => burstV_ok (t := zs) (cs := cs) (p := p) (m := m) h hf h1 h2 h3)
    go_enter Try.func18, Try.ntmps18
    go_wp2_with fail
    refine wp_scope_straight ?_
    go_wp2_with fail
    refine (many_any a zs.length cap w hl).mono ?_
    rintro e w' ⟨rfl, rfl⟩
    rw [HM.out]
    go_wp2_with fail
    refine (HL.out _).mono ?_
    rintro e w' ⟨rfl, rfl⟩
    generalize Lib.bitLen m = l at *
    go_wp2_with fail
    refine (clone_any a cap zs w' hr (by omega)).mono ?_
    rintro e w1 ⟨v, rfl, hv, hb⟩
    obtain ⟨g, c, rfl, hg0, hg1⟩ := hv.form (by omega)
    have HS : Hid (Turned w' w'.heap.size (.slice (some ⟨g, 0, Option.none⟩) zs.length c) zs.length (num zs ^^^ m * 2 ^ p) p m w1) := Lib.hid ⟨zs, rfl, hz, rfl, hv, hb⟩
    clear hv hb hr HL HM
    go_wp2_with fail
    refine wp_label ?_
    go_wp2_with fail
    clear HF
    generalize num zs ^^^ m * 2 ^ p = X at *
    go_loopw [1, 2] (fun x y wr => ∃ p' m' : Nat, x = .int .i64 p' ∧ y = .int .u32 m' ∧ p' ≤ 8 * zs.length ∧ m' < 4294967296 ∧ Fits zs.length p' m' ∧ Turned w' w'.heap.size (.slice (some ⟨g, 0, Option.none⟩) zs.length c) zs.length X p' m' wr) (fun _ y _ => (intOf y).toNat)
    case atStart => exact ⟨p, m, rfl, rfl, by omega, hm, hf, HS.out⟩
    case round =>
      obtain ⟨q, k, rfl, rfl, hq, hk, hfk, ⟨cs, hcl, hcb, hcx, hown, hbl⟩⟩ := hrel
      clear HS hf hlt hb1 hm hmz
      by_cases hkz : k = 0
      · subst hkz
        have H := Lib.hid (HX.out cs hcl hcb (by rw [← hcx, Nat.zero_mul, Nat.xor_zero]))
        go_wp2
        go_ret2
        exact Ans.some H.out (by rw [hcl]; exact hown) hbl
      have hq8 := hfk.lt hkz
      have HFH := Lib.hid hfk.half
      by_cases hodd : k % 2 = 1
      · have h1 : bits .and .u32 (k : Int) 1 = 1 := by rw [and_one k hk, hodd]; rfl
        have hj : q / 8 < zs.length := by omega
        have hcell := hown.cellAt (q / 8) (by omega)
        have hfr := hown.frozenAt (q / 8)
        rw [show (nums8 cs)[q / 8]? = some (.int .u8 (cs.getD (q / 8) 0)) by simp [List.getD_eq_getElem?_getD, show q / 8 < cs.length by omega]] at hcell
        have hqj : ((q : Int) / 8) = ((q / 8 : Nat) : Int) := by omega
        have hqb : ((q : Int) % 8) = ((q % 8 : Nat) : Int) := by omega
        have hb8 : q % 8 < 8 := by omega
        have HJ := Lib.hid (show q / 8 = q / 8 from rfl)
        have HB := Lib.hid (show q % 8 = q % 8 from rfl)
        have hz2 := hcb.at (k := q / 8) (by omega)
        have HXP := Lib.hid (xor_pow (b := q % 8) hz2.1 hz2.2 hb8)
        have HO := Lib.hid (hown.stored (q / 8) (.int .u8 ((((cs.getD (q / 8) 0).toNat ^^^ 2 ^ (q % 8) : Nat) : Int)))).1
        have HF : Hid (nums8 (flip cs q) = (nums8 cs).set (q / 8) (.int .u8 ((((cs.getD (q / 8) 0).toNat ^^^ 2 ^ (q % 8) : Nat) : Int)))) := Lib.hid (by rw [nums8_set]; rfl)
        have HFL := Lib.hid ((flip_length cs q).trans hcl)
        have HFB : Hid (Bytes (flip cs q)) := Lib.hid (flip_range cs q hcb)
        have HN : Hid (num (flip cs q) ^^^ k / 2 * 2 ^ (q + 1) = X) := Lib.hid (by rw [num_flip cs q hcb (by omega), Nat.xor_assoc, ← odd_mask k q hodd]; exact hcx)
        have HBL := Lib.hid ((hbl.grown (hown.stored (q / 8) (.int .u8 ((((cs.getD (q / 8) 0).toNat ^^^ 2 ^ (q % 8) : Nat) : Int)))).2 hbl.size (by intro k hk; cases hk; exact hg0)))
        generalize flip cs q = fs at *
        generalize q / 8 = j at hj hcell hfr hqj HJ HXP HO HF HBL
        generalize q % 8 = b at hqb hb8 HB HXP HO HF HBL
        generalize cs.getD j 0 = z at hcell HXP HO HF HBL
        clear hown HX hz2 hcx hbl HJ HB
        go_wp2_with fail
        go_region
        rw [HXP.out]
        go_wp2
        go_roundw
        case rel => exact ⟨q + 1, k / 2, by go_num, by go_num, by omega, by omega, HFH.out, fs, HFL.out, HFB.out, HN.out, by rw [HF.out]; exact HO.out, HBL.out.drew⟩
        case measure => simp [intOf]; omega
      · have h1 : bits .and .u32 (k : Int) 1 = 0 := by rw [and_one k hk]; omega
        have HT : Hid (num cs ^^^ k / 2 * 2 ^ (q + 1) = X) := Lib.hid (by rw [← even_mask k q hodd]; exact hcx)
        have HO := Lib.hid hown
        clear hown hcx
        go_wp2
        go_roundw
        case rel => exact ⟨q + 1, k / 2, by go_num, by go_num, by omega, by omega, HFH.out, cs, hcl, hcb, HT.out, HO.out, hbl⟩
        case measure => simp [intOf]; omega
  · have H := Lib.hid (burstV_out h hf)
    have hlt : ¬ p + Lib.bitLen m ≤ 8 * zs.length := fun g => hf (HF.out.1.2 g)
    have hb1 := HF.out.2
    clear hf
    go_enter Try.func18, Try.ntmps18
    go_wp2_with fail
    refine wp_scope_straight ?_
    go_wp2_with fail
    refine (many_any a zs.length cap w hl).mono ?_
    rintro e w' ⟨rfl, rfl⟩
    rw [HM.out]
    go_wp2_with fail
    refine (HL.out _).mono ?_
    rintro e w' ⟨rfl, rfl⟩
    generalize Lib.bitLen m = l at *
    have hmb : ((m : Int) != 0) = true := by rw [bne_iff_ne]; omega
    have hge : 8 * (zs.length : Int) - ((l : Int) - 1) ≤ (p : Int) := by omega
    clear HF HL HM hlt
    go_wp2
    go_ret2
    exact Ans.nil H.out (Below.refl _ _)

end Go.Proofs.Ytdddgbgfdaokiaa.Crc
