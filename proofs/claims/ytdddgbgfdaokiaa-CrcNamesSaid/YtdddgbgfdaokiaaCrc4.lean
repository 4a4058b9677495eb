/- Contracts of crc's functions above 'behind': what is sealed, and opened. -/
import Derived.Test.YtdddgbgfdaokiaaCrc3
import Derived.Deep.Onto
namespace Go.Proofs.Ytdddgbgfdaokiaa.Crc
open Go.RowKit Go.Proofs.Ytdddgbgfdaokiaa

theorem sumV_le (zs : List Int) : sumV zs ≤ 4294967295 := by unfold sumV; omega
theorem wrap8 (x : Int) : IntKind.u8.wrap x = x % 256 := by rw [IntKind.wrap_u8]
theorem sealed_cast (zs : List Int) : nums8 zs ++ nums8 (le4 (sumV zs)) = nums8 (sealed zs) := by unfold sealed nums8; rw [List.map_append]

theorem four_cells (w : World) (t : TypeId) (a b c d : Value) : ∀ j u, [a, b, c, d][j]? = some u → (w.alloc (.cells #[a, b, c, d] t)).cell? ((⟨w.heap.size, 0, Option.none⟩ : Addr).add j) = some u := by
  intro j u h
  rw [Addr.add_lit]
  rw [Nat.zero_add, cell_of_row (w.alloc (.cells #[a, b, c, d] t)) w.heap.size j #[a, b, c, d] t (0, 0) (heap_alloc_new w _)]
  simpa using h
theorem four_one (a b c d : Int) : ∀ u ∈ [Value.int .u8 a, .int .u8 b, .int .u8 c, .int .u8 d], u.oneCell' = true := by
  intro u hu
  simp at hu
  rcases hu with rfl | rfl | rfl | rfl <;> rfl

set_option maxRecDepth 100000 in
set_option maxHeartbeats 2000000 in
theorem sealed_any (a : Option Addr) (cap : Nat) (zs : List Int) (w : World) (hz : Bytes zs) (hr : Rd .u8 w a zs) (hl : zs.length ≤ 140737488355320) :
    Calls Try.prog 25 #[.slice a zs.length cap] w fun e w' => ∃ v', e = .returned v' ∧ w'.ownsRow w.heap.size 5 1 v' (sealed zs).length (nums8 (sealed zs)) ∧ Below w.heap.size w w' := by
  obtain ⟨i0, hi, hz0, hz1, hz2⟩ := info_parts info8
  have hlt := behind_lt (s := 4294967295) (by decide) hz
  have HS := Lib.hid (show sumV zs = 4294967295 - behind 4294967295 zs from rfl)
  have HC := Lib.hid (sealed_cast zs)
  have HL := Lib.hid (sealed_length zs)
  go_enter Try.func25, Try.ntmps25
  go_wp2_with fail
  refine (behind_any 4294967295 a cap zs w (by decide) (by decide) hz hr (by omega)).mono ?_
  rintro e w1 ⟨rfl, hb⟩
  rw [show (4294967295 : Int).toNat = 4294967295 from rfl]
  generalize behind 4294967295 zs = t at *
  have hn := not_u32 t hlt
  have hr1 := hr.mono hb (Nat.le_refl _)
  rw [← HS.out] at hn
  have hlt2 := sumV_le zs
  generalize sumV zs = u at *
  go_wp2_with fail
  refine (clone_any a cap zs w1 hr1 (by omega)).mono ?_
  rintro e w2 ⟨v, rfl, hv, hb2⟩
  have HV := Lib.hid (hv.mono hb.size)
  have HB := Lib.hid (bstep hb hb2)
  clear hv hb hb2 hr1 hr HS
  go_wp2_with (at_builtin; refine wpList_append_own _ rfl _ _ 23 rfl w.heap.size 5 i0 (.int .u8 0) 1 1 Try.underlying23 hi hz0 hz1 hz2 rfl (by decide) v zs.length (nums8 zs) rfl (HV.out.alloc _) ⟨w2.heap.size, 0, Option.none⟩ 4 4 [.int .u8 ((u : Int) % 256), .int .u8 ((u : Int) / 256 % 256), .int .u8 ((u : Int) / 65536 % 256), .int .u8 ((u : Int) / 16777216)] rfl ?qc1 ?qc2 ?qc3 ?qc4 ?qc5 ?qc6 ?_)
  case qc1 => rfl
  case qc2 => exact four_cells _ _ _ _ _ _
  case qc3 => exact four_one _ _ _ _
  case qc4 => unfold maxLen; omega
  case qc5 => omega
  case qc6 => exact Nat.le_trans HB.out.size (by simp)
  intro v' w3 hown hgrow hnil
  have HO := Lib.hid hown
  clear hown
  go_wp2
  go_ret
  refine ⟨v', rfl, ?_, ?_⟩
  · rw [← HC.out, HL.out, show le4 u = [(u : Int) % 256, (u : Int) / 256 % 256, (u : Int) / 65536 % 256, (u : Int) / 16777216] by unfold le4; simp; omega]
    exact HO.out
  · exact (HB.out.alloc HB.out.size _).grown hgrow (Nat.le_trans HB.out.size (by simp)) (fun k hk => (World.ownsRow.lt HV.out k hk).1)

end Go.Proofs.Ytdddgbgfdaokiaa.Crc
