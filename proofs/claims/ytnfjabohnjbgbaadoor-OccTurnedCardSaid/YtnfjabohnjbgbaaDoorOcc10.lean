/- Contracts of package occ: the words of a part, without the bits of others. -/
import Derived.Test.YtnfjabohnjbgbaaDoorOcc9
namespace Go.Proofs.YtnfjabohnjbgbaaDoor.Occ
open Go.RowKit Go.Shelf Go.Proofs.YtnfjabohnjbgbaaDoor

theorem cut_none (x : Nat) (hx : x < 18446744073709551616) : cutN x 0 0 = x := by unfold cutN; simp; omega
set_option maxRecDepth 100000 in
set_option maxHeartbeats 1000000 in
theorem cut_core (b off Bw Bf Bt ca ln x f t k l h : Nat) (w : World) (hx : x < 18446744073709551616)
    (hcw : w.cell? ⟨Bw, 0, Option.none⟩ = some (.slice (some ⟨b, off, Option.none⟩) ln ca)) (hcf : w.cell? ⟨Bf, 0, Option.none⟩ = some (.int .i64 f)) (hct : w.cell? ⟨Bt, 0, Option.none⟩ = some (.int .i64 t))
    (hcx : w.cell? ⟨b, off + k, Option.none⟩ = some (.int .u64 x)) (hk : k < ln) (hln : ln ≤ 100000) (hf : f ≤ 6500000) (ht : t ≤ 6500000) (hl : l = f - 64 * k) (hh : h = 64 * (k + 1) - t) (hl2 : l < 64) (hh2 : h < 64) :
    Calls Tryd.prog 39 #[.int .i64 k, .pointer (some ⟨Bw, 0, Option.none⟩), .pointer (some ⟨Bf, 0, Option.none⟩), .pointer (some ⟨Bt, 0, Option.none⟩)] w fun e w' => e = .returned (.int .u64 ((cutN x l h : Nat) : Int)) ∧ w = w' := by
  obtain ⟨y, hy⟩ : ∃ y, y = x / 2 ^ l * 2 ^ l := ⟨_, rfl⟩
  obtain ⟨z, hz⟩ : ∃ z, z = y * 2 ^ h % 18446744073709551616 := ⟨_, rfl⟩
  obtain ⟨u, hu⟩ : ∃ u, u = z / 2 ^ h := ⟨_, rfl⟩
  have hyx : y ≤ x := by rw [hy]; exact Nat.div_mul_le_self _ _
  have hzl : z < 18446744073709551616 := by rw [hz]; exact Nat.mod_lt _ (by decide)
  have HC : Hid (cutN x l h = u) := Lib.hid (by unfold cutN; rw [← hy, ← hz, ← hu])
  have e1 : (x : Int) / 2 ^ l * 2 ^ l = (y : Int) := by rw [hy]; simp
  have e2 : IntKind.u64.wrap ((y : Int) * 2 ^ h) = (z : Int) := by rw [IntKind.wrap_u64, hz]; simp
  have e3 : (z : Int) / 2 ^ h = (u : Int) := by rw [hu]; simp
  rw [HC.out]
  have g1 : ((k : Int) + 1) * 64 - (t : Int) = (h : Int) ∨ h = 0 := by omega
  by_cases h1 : l = 0
  · subst h1
    have hyx2 : y = x := by rw [hy]; simp
    subst hyx2
    have g2 : ¬ (0 : Int) < (f : Int) - (k : Int) * 64 := by omega
    by_cases h2 : h = 0
    · subst h2
      have hux : u = y := by rw [hu, hz]; simp; omega
      subst hux
      have g3 : ¬ (0 : Int) < ((k : Int) + 1) * 64 - (t : Int) := by omega
      clear hy hz hu HC e1 e2 e3 hl hh g1
      go_enter Tryd.func39, Tryd.ntmps39
      go_wp2
      go_ret
      exact ⟨rfl, rfl⟩
    · have g3 : ((k : Int) + 1) * 64 - (t : Int) = (h : Int) := by omega
      have h2' : 0 < h := by omega
      clear hy hz hu HC e1 hl hh g1 h2
      go_enter Tryd.func39, Tryd.ntmps39
      go_wp2
      go_ret
      exact ⟨rfl, rfl⟩
  · have g2 : (f : Int) - (k : Int) * 64 = (l : Int) := by omega
    have h1' : 0 < l := by omega
    by_cases h2 : h = 0
    · subst h2
      have hux : u = y := by rw [hu, hz]; simp; omega
      subst hux
      have g3 : ¬ (0 : Int) < ((k : Int) + 1) * 64 - (t : Int) := by omega
      clear hy hz hu HC e2 e3 hl hh g1 h1
      go_enter Tryd.func39, Tryd.ntmps39
      go_wp2
      go_ret
      exact ⟨rfl, rfl⟩
    · have g3 : ((k : Int) + 1) * 64 - (t : Int) = (h : Int) := by omega
      have h2' : 0 < h := by omega
      clear hy hz hu HC hl hh g1 h2 h1
      go_enter Tryd.func39, Tryd.ntmps39
      go_wp2
      go_ret
      exact ⟨rfl, rfl⟩
theorem cut_any (a : Option Addr) (Bw Bf Bt ca : Nat) (ws : List Int) (f t k : Nat) (w : World) (hu : U64 ws) (hr : Rd .u64 w a ws)
    (hcw : w.cell? ⟨Bw, 0, Option.none⟩ = some (.slice a ws.length ca)) (hcf : w.cell? ⟨Bf, 0, Option.none⟩ = some (.int .i64 f)) (hct : w.cell? ⟨Bt, 0, Option.none⟩ = some (.int .i64 t))
    (hln : ws.length ≤ 100000) (ht : t ≤ 64 * ws.length) (hft : f ≤ t) (hk : 64 * k < t) (hk2 : f < 64 * (k + 1)) :
    Calls Tryd.prog 39 #[.int .i64 k, .pointer (some ⟨Bw, 0, Option.none⟩), .pointer (some ⟨Bf, 0, Option.none⟩), .pointer (some ⟨Bt, 0, Option.none⟩)] w fun e w' => e = .returned (.int .u64 ((pw ws f t k : Nat) : Int)) ∧ w = w' := by
  obtain ⟨b, off, rfl, hc⟩ := Rd.word hu hr k (by omega)
  exact cut_core b off Bw Bf Bt ca ws.length (wd ws k) f t k _ _ w (wd_of hu k) hcw hcf hct hc (by omega) hln (by omega) (by omega) rfl rfl (by omega) (by omega)

end Go.Proofs.YtnfjabohnjbgbaaDoor.Occ
