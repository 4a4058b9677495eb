/- Contracts of the document's answer for crc. -/
import Derived.Test.YtdddgbgfdaokiaaCrc6
import Derived.Test.YtdddgbgfdaokiaaOwn
namespace Go.Proofs.Ytdddgbgfdaokiaa.Crc
open Go.RowKit Go.Proofs.Ytdddgbgfdaokiaa

theorem refSum_any (a : Option Addr) (cap : Nat) (zs : List Int) (w : World) (hz : Bytes zs) (hr : Rd .u8 w a zs) (hl : zs.length ≤ 9223372036854775807) :
    Calls Try.prog 23 #[.slice a zs.length cap] w fun e w' => e = .returned (.int .u32 (sumV zs)) ∧ w = w' := by
  have hlt := behind_lt (s := 4294967295) (by decide) hz
  have HS := Lib.hid (show sumV zs = 4294967295 - behind 4294967295 zs from rfl)
  go_enter Try.func23, Try.ntmps23
  go_wp2_with fail
  refine (refBehind_any 4294967295 a cap zs w (by decide) (by decide) hz hr hl).mono ?_
  rintro e w' ⟨rfl, rfl⟩
  rw [show (4294967295 : Int).toNat = 4294967295 from rfl]
  generalize behind 4294967295 zs = t at *
  go_wp2
  go_ret
  exact ⟨ret_int (by rw [HS.out]; omega), rfl⟩

set_option maxHeartbeats 1000000 in
theorem refGo_any (s : Int) (a : Option Addr) (cap : Nat) (zs : List Int) (w : World) (h0 : 0 ≤ s) (h1 : s < 4294967296) (hz : Bytes zs) (hr : Rd .u8 w a zs) (hl : zs.length ≤ 9223372036854775807) :
    Calls Try.prog 10 #[.int .u32 s, .slice a zs.length cap] w fun e w' => e = .returned (.tuple #[.int .u32 (goV s.toNat zs).1, .int .i64 (goV s.toNat zs).2]) ∧ w = w' := by
  by_cases h : 1048576 < zs.length
  · have H := Lib.hid (goV_hi (s := s.toNat) h)
    go_enter Try.func10, Try.ntmps10
    go_wp2
    go_ret2
    exact ⟨ret_un (by rw [H.out]), rfl⟩
  · have H := Lib.hid (goV_lo (s := s.toNat) h)
    go_enter Try.func10, Try.ntmps10
    go_wp2_with fail
    refine (refBehind_any s a cap zs w h0 h1 hz hr hl).mono ?_
    rintro e w' ⟨rfl, rfl⟩
    generalize behind s.toNat zs = t at *
    go_wp2
    go_ret2
    exact ⟨ret_un H.out, rfl⟩

set_option maxHeartbeats 1000000 in
theorem refOf_any (a : Option Addr) (cap : Nat) (zs : List Int) (w : World) (hz : Bytes zs) (hr : Rd .u8 w a zs) (hl : zs.length ≤ 9223372036854775807) :
    Calls Try.prog 12 #[.slice a zs.length cap] w fun e w' => e = .returned (.tuple #[.int .u32 (ofV zs).1, .int .i64 (ofV zs).2]) ∧ w = w' := by
  by_cases h : 1048576 < zs.length
  · have H := Lib.hid (ofV_hi h)
    go_enter Try.func12, Try.ntmps12
    go_wp2
    go_ret2
    exact ⟨ret_un (by rw [H.out]), rfl⟩
  · have H := Lib.hid (ofV_lo h)
    go_enter Try.func12, Try.ntmps12
    go_wp2_with fail
    refine (refSum_any a cap zs w hz hr hl).mono ?_
    rintro e w' ⟨rfl, rfl⟩
    generalize sumV zs = t at *
    go_wp2
    go_ret2
    exact ⟨ret_un H.out, rfl⟩

/-- One number of the four. -/
theorem le4_take (u k : Nat) (h : k < 4) : (le4 u).take (k + 1) = (le4 u).take k ++ [((u / 256 ^ k % 256 : Nat) : Int)] := by
  rcases k with _ | _ | _ | _ | k
  · simp [le4]
  · simp [le4]
  · simp [le4]
  · simp [le4]
  · omega

/-- The world of the document's loop that lays a sum behind. -/
def Tail (w0 : World) (B : Nat) (v : Value) (zs : List Int) (u k : Nat) (wr : World) : Prop :=
  wr.ownsRow B 5 1 v (zs.length + k) (nums8 (zs ++ (le4 u).take k)) ∧ Below B w0 wr

set_option maxRecDepth 100000 in
set_option maxHeartbeats 2000000 in
theorem refSealed_any (a : Option Addr) (cap : Nat) (zs : List Int) (w : World) (hz : Bytes zs) (hr : Rd .u8 w a zs) (hn : a = Option.none → cap = 0) (hl : zs.length ≤ 140737488355320) :
    Calls Try.prog 28 #[.slice a zs.length cap] w fun e w' => ∃ v', e = .returned v' ∧ w'.ownsRow w.heap.size 5 1 v' (sealed zs).length (nums8 (sealed zs)) ∧ Below w.heap.size w w' := by
  obtain ⟨i0, hi, hz0, hz1, hz2⟩ := info_parts info8
  have hlt := sumV_le zs
  have HC : Hid ((sealed zs).length = zs.length + 4 ∧ sealed zs = zs ++ (le4 (sumV zs)).take 4) := Lib.hid ⟨sealed_length zs, rfl⟩
  go_enter Try.func28, Try.ntmps28
  go_wp2_with fail
  refine (refSum_any a cap zs w hz hr (by omega)).mono ?_
  rintro e w' ⟨rfl, rfl⟩
  generalize sumV zs = u at *
  go_wp2_with (at_builtin; refine wpList_append_copy (k := .u8) rfl _ _ 23 5 rfl i0 1 Try.underlying23 hi hz0 hz1 hz2 a cap zs rfl rfl hr hn (by unfold maxLen; omega) (by omega) ?_)
  intro v w1 hv hb
  have HV : Hid (Tail w w.heap.size v zs u 0 w1) := Lib.hid ⟨by simpa using hv, hb⟩
  clear hv hb hr
  have HU : Hid (u / 256 ^ 0 = u) := Lib.hid (by simp)
  go_wp2
  go_loopw [3, 4, 5] (fun s o i wr => ∃ k : Nat, k ≤ 4 ∧ i = .int .i64 k ∧ s = .int .u32 ((u / 256 ^ k : Nat) : Int) ∧ Tail w w.heap.size o zs u k wr) (fun _ _ i _ => 4 - (intOf i).toNat)
  case atStart => exact ⟨0, by omega, rfl, by rw [HU.out], HV.out⟩
  case round =>
    obtain ⟨k, hk, rfl, rfl, ht⟩ := hrel
    clear HV HU
    by_cases hk4 : k < 4
    · have hd : u / 256 ^ k ≤ 4294967295 := Nat.le_trans (Nat.div_le_self _ _) hlt
      have HD := Lib.hid (show u / 256 ^ (k + 1) = u / 256 ^ k / 256 by rw [Nat.pow_succ, Nat.div_div_eq_div_mul])
      have HT := Lib.hid (le4_take u k hk4)
      generalize u / 256 ^ k = d at *
      have hbl := ht.2
      have hown := ht.1
      clear ht
      go_wp2_with (at_builtin; refine wpList_append_news hown hbl.size rfl _ _ 23 rfl i0 (.int .u8 0) 1 Try.underlying23 hi hz0 hz1 hz2 rfl #[.int .u8 ((d : Int) % 256)] 1 rfl rfl (by simp [Value.oneCell']) (by unfold maxLen; simp; omega) (by simp; omega) ?_)
      intro v' w' hv hb
      have HB := Lib.hid (hbl.trans hb)
      have HV := Lib.hid hv
      clear hv hb hbl hown
      go_wp2
      go_roundw
      case rel =>
        refine ⟨k + 1, by omega, by go_num, by rw [HD.out]; go_num, ?_, HB.out⟩
        rw [HT.out]
        have := HV.out
        simpa [nums8, Nat.add_assoc] using this
      case measure => simp [intOf]; omega
    · obtain rfl : k = 4 := by omega
      have HT := Lib.hid ht
      clear ht
      go_wp2
      go_ret
      refine ⟨_, rfl, ?_, HT.out.2⟩
      rw [HC.out.1, HC.out.2]
      exact HT.out.1

end Go.Proofs.Ytdddgbgfdaokiaa.Crc
