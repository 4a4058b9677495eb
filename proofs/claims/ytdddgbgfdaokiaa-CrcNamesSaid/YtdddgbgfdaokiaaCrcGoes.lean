/- The law CrcGoes: a walk. -/
import Derived.Test.YtdddgbgfdaokiaaCrcAlive
namespace Go.Proofs.Ytdddgbgfdaokiaa.Crc
open Go.RowKit Go.Proofs.Ytdddgbgfdaokiaa

theorem openV_sealed (zs : List Int) (h : zs.length ≤ 1000000) : openV (sealed zs) = (zs, 0) := by
  have hl := sealed_length zs
  have e : (sealed zs).take ((sealed zs).length - 4) = zs := by rw [hl, Nat.add_sub_cancel]; unfold sealed; simp
  have := openV_ok (t := sealed zs) (by omega) (by omega) (by rw [e])
  rw [this, e]

set_option maxRecDepth 100000 in
set_option maxHeartbeats 4000000 in
theorem crcGoes (s : Int) (a : Option Addr) (la ca : Nat) (za : List Int) (b : Option Addr) (lb cb : Nat) (zb : List Int) (w : World) (ws : (Lit.int .u32 s).wf = true) (wa : Opn.IsRow .u8 w a la ca za) (wb : Opn.IsRow .u8 w b lb cb zb) :
    Calls Try.prog 5 #[.int .u32 s, .slice a la ca, .slice b lb cb] w fun e w' => e = .returned (.bool true) ∧ Below w.heap.size w w' := by
  obtain ⟨i0, hi, hz0, hz1, hz2⟩ := info_parts info8
  obtain ⟨h0, h1⟩ := u32_of ws
  obtain ⟨xs, rfl, hra, hba, hna, _, _⟩ := arg_of wa
  obtain ⟨ys, rfl, hrb, hbb, hnb, _, _⟩ := arg_of wb
  clear ws wa wb
  go_enter Try.func5, Try.ntmps5
  go_wp2_with fail
  refine (alive_any w).mono ?_
  rintro e w1 ⟨rfl, hb1⟩
  have hra1 := hra.mono hb1 (Nat.le_refl _)
  have hrb1 := hrb.mono hb1 (Nat.le_refl _)
  have HB1 := Lib.hid hb1
  clear hra hrb hb1
  by_cases hl : 1500 < xs.length
  · clear hra1 hrb1
    go_wp2
    go_ret
    exact ⟨rfl, HB1.out⟩
  by_cases hl2 : 1500 < ys.length
  · clear hra1 hrb1
    go_wp2
    go_ret
    exact ⟨rfl, HB1.out⟩
  go_wp2_with (at_builtin; refine wpList_append_copy (k := .u8) rfl _ _ 23 5 rfl i0 1 Try.underlying23 hi hz0 hz1 hz2 a ca xs rfl rfl hra1 hna (by unfold maxLen; omega) (by omega) ?_)
  intro v w2 hv hb2
  have hrb2 := hrb1.mono hb2 (Nat.le_refl _)
  have hra2 := hra1.mono hb2 (Nat.le_refl _)
  go_wp2_with (at_builtin; refine wpList_append_onto (k := .u8) hv hb2.size rfl _ _ 23 rfl i0 1 Try.underlying23 hi hz0 hz1 hz2 b cb ys rfl rfl hrb2 hnb (by unfold maxLen; omega) (by omega) ?_)
  intro v2 w3 hv2 hb3
  rw [← List.map_append] at hv2
  obtain ⟨a3, c3, rfl, hlen, ho3, _, hn3, _⟩ := owns_arg hv2
  have hra3 := hra1.mono (hb2.trans hb3) (Nat.le_refl _)
  have hrb3 := hrb1.mono (hb2.trans hb3) (Nat.le_refl _)
  have HB3 := Lib.hid (bstep HB1.out (hb2.trans hb3))
  have hba2 : Bytes (xs ++ ys) := Bytes.append hba hbb
  have Hl := Lib.hid hlen
  have hl3 : (xs ++ ys).length ≤ 3000 := by omega
  have HG : Hid (behind (behind s.toNat xs) ys = behind s.toNat (xs ++ ys)) := Lib.hid (behind_append _ _ _).symm
  have HG1 := Lib.hid (goV_lo (s := s.toNat) (zs := xs) (by omega))
  have HG2 := Lib.hid (goV_lo (s := behind s.toNat xs) (zs := ys) (by omega))
  have HG3 := Lib.hid (goV_lo (s := s.toNat) (zs := xs ++ ys) (by omega))
  have hbl : behind s.toNat xs < 4294967296 := behind_lt (by omega) hba
  have HS := Lib.hid (sealV_lo (zs := xs ++ ys) (by omega))
  have HO := Lib.hid (openV_sealed (xs ++ ys) (by omega))
  have HSL := Lib.hid (sealed_length (xs ++ ys))
  have HSB : Hid (Bytes (sealed (xs ++ ys))) := Lib.hid hba2.sealed
  clear hv hv2 hb2 hb3 hra1 hra2 hrb1 hrb2
  generalize xs ++ ys = zs at *
  go_wp2_with fail
  refine (go_any s a ca xs w3 h0 h1 hba hra3 (by omega)).mono ?_
  rintro e w4 ⟨rfl, hb4⟩
  rw [HG1.out]
  have hrb4 := hrb3.mono hb4 (Nat.le_refl _)
  have ho4 := ho3.mono hb4 (Nat.le_refl _)
  have HB4 := Lib.hid (bstep HB3.out hb4)
  clear hb4 hra3 hrb3 ho3
  go_wp2_with fail
  refine (go_any ((behind s.toNat xs : Nat) : Int) b cb ys w4 (by omega) (by omega) hbb hrb4 (by omega)).mono ?_
  rintro e w5 ⟨rfl, hb5⟩
  rw [Int.toNat_natCast, HG2.out, HG.out]
  have ho5 := ho4.mono hb5 (Nat.le_refl _)
  have HB5 := Lib.hid (bstep HB4.out hb5)
  clear hb5 hrb4 ho4
  go_wp2_with fail
  refine (go_any s a3 c3 zs w5 h0 h1 hba2 ho5 (by omega)).mono ?_
  rintro e w6 ⟨rfl, hb6⟩
  rw [HG3.out]
  have ho6 := ho5.mono hb6 (Nat.le_refl _)
  have HB6 := Lib.hid (bstep HB5.out hb6)
  clear hb6 ho5
  go_wp2_with fail
  refine (seal_any a3 c3 zs w6 hba2 ho6 (by omega)).mono ?_
  rintro e w7 ⟨v7, rfl, hv7, hb7⟩
  rw [HS.out] at hv7 ⊢
  obtain ⟨a7, c7, rfl, _, ho7, hc7, _, hm7⟩ := owns_arg hv7
  have hp7 := ho6.mono hb7 (Nat.le_refl _)
  have HB7 := Lib.hid (bstep HB6.out hb7)
  clear hb7 ho6 hv7
  go_wp2_with fail
  refine (open_any a7 c7 (sealed zs) w7 HSB.out ho7 (by rw [HSL.out]; omega) hc7).mono ?_
  rintro e w8 ⟨v8, rfl, hv8, hb8⟩
  rw [HO.out] at hv8 ⊢
  obtain ⟨a8, c8, rfl, _, ho8, _⟩ := owns_arg hv8
  have hp8 := hp7.mono hb8 (Nat.le_refl _)
  have HB8 := Lib.hid (bstep HB7.out hb8)
  have hq1 := conv_rd (n := zs.length) (cap := c8) ho8 rfl
  have hq2 := conv_rd (n := zs.length) (cap := c3) hp8 rfl
  have hsl : ((sealed zs).length : Int) = (zs.length : Int) + 4 := by rw [HSL.out]; omega
  generalize behind s.toNat zs = t at *
  clear hb8 hv8 hp7 ho7 hp8 ho8
  generalize (sealed zs).length = n7 at *
  go_wp2
  go_ret
  exact ⟨by simp, HB8.out⟩

end Go.Proofs.Ytdddgbgfdaokiaa.Crc
