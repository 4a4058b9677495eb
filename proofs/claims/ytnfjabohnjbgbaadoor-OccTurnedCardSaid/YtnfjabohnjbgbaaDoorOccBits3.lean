/- Bits of words: how many are set: the last steps. -/
import Derived.Test.YtnfjabohnjbgbaaDoorOccBits2
namespace Go.Proofs.YtnfjabohnjbgbaaDoor.Occ
open Go.RowKit Go.Shelf Go.Proofs.YtnfjabohnjbgbaaDoor

theorem val_lt (l : List Nat) (h : ∀ b ∈ l, b < 256) : ∀ n, l.length ≤ n → val l < 256 ^ n := by
  induction l with
  | nil => intro n _; exact Nat.pow_pos (by decide)
  | cons b l ih =>
    intro n hn
    obtain ⟨m, rfl⟩ : ∃ m, n = m + 1 := ⟨n - 1, by simp at hn; omega⟩
    have := ih (fun c hc => h c (by simp [hc])) m (by simpa using hn)
    have hb := h b (by simp)
    show b + 256 * val l < _
    rw [Nat.pow_succ]; omega
theorem val_lt2 (l : List Nat) (h : ∀ b ∈ l, b < 128) : ∀ n, l.length ≤ n → 2 * val l < 256 ^ n := by
  induction l with
  | nil => intro n _; exact Nat.pow_pos (by decide)
  | cons b l ih =>
    intro n hn
    obtain ⟨m, rfl⟩ : ∃ m, n = m + 1 := ⟨n - 1, by simp at hn; omega⟩
    have := ih (fun c hc => h c (by simp [hc])) m (by simpa using hn)
    have hb := h b (by simp)
    show 2 * (b + 256 * val l) < _
    rw [Nat.pow_succ]; omega
theorem pop_key (x : Nat) (hx : x < 18446744073709551616) : ∃ a1 a2 a3 a4 a5 : Nat, x / 2 &&& 6148914691236517205 = a1 ∧ x &&& 6148914691236517205 = a2 ∧ a1 + a2 < 18446744073709551616 ∧
    (a1 + a2) / 4 &&& 3689348814741910323 = a3 ∧ (a1 + a2) &&& 3689348814741910323 = a4 ∧ a3 + a4 < 1152921504606846976 * 8 ∧
    ((a3 + a4) / 16 + (a3 + a4)) &&& 1085102592571150095 = a5 ∧ a5 ≤ 600000000000000000 ∧
    (∀ y z u, y = a5 + a5 / 256 → z = y + y / 65536 → u = z + z / 4294967296 → u % 128 = Lib.popAux 64 x ∧ y ≤ 1200000000000000000 ∧ z ≤ 2400000000000000000 ∧ u ≤ 4800000000000000000) := by
  have hv := bytes8_val x hx
  have hlt := bytes8_lt x
  have hp := pop_val (bytes8 x) hlt
  rw [hv] at hp
  have t1 := s1 (bytes8 x) hlt
  rw [hv] at t1
  have h1 : ∀ b ∈ (bytes8 x).map B1, b < 256 := by
    intro b hb; obtain ⟨c, hc, rfl⟩ := List.mem_map.1 hb; exact b1_lt c (hlt c hc)
  have t2 := s2 ((bytes8 x).map B1) h1
  have h2 : ∀ b ∈ ((bytes8 x).map B1).map B2, b < 256 ∧ b % 16 ≤ 4 ∧ b / 16 ≤ 4 := by
    intro b hb; obtain ⟨c, hc, rfl⟩ := List.mem_map.1 hb; obtain ⟨d, hd, rfl⟩ := List.mem_map.1 hc; exact b2_lt d (hlt d hd)
  have t3 := s3 (((bytes8 x).map B1).map B2) h2
  have g : ∀ b ∈ bytes8 x, B3 (B2 (B1 b)) = Lib.popAux 8 b ∧ Lib.popAux 8 b ≤ 8 := fun b hb => b3_is b (hlt b hb)
  have hl : (bytes8 x).length = 8 := rfl
  rw [List.length_map, List.length_map, hl, show rep 15 8 = 1085102592571150095 by decide] at t3
  rw [List.length_map, hl, show rep 51 8 = 3689348814741910323 by decide] at t2
  rw [hl, show rep 85 8 = 6148914691236517205 by decide] at t1
  have v1 : val ((bytes8 x).map B1) < 18446744073709551616 := val_lt _ h1 8 (by rw [List.length_map]; exact Nat.le_refl _)
  have v2 : val (((bytes8 x).map B1).map B2) < 1152921504606846976 * 8 := by
    have := val_lt2 _ (fun b hb => (show b < 128 by have := h2 b hb; omega)) 8 (by rw [List.length_map, List.length_map]; exact Nat.le_refl _)
    have e : (256 : Nat) ^ 8 = 18446744073709551616 := by decide
    omega
  clear h1 h2
  refine ⟨_, _, _, _, _, rfl, rfl, by rw [t1]; exact v1, rfl, rfl, by rw [t1, t2]; exact v2, rfl, ?_⟩
  rw [t1, t2, t3]
  unfold bytes8 at g hp ⊢
  simp only [List.map_cons, List.map_nil, List.mem_cons, List.not_mem_nil, or_false, forall_eq_or_imp, forall_eq] at g hp ⊢
  obtain ⟨⟨g0, l0⟩, ⟨g1, l1⟩, ⟨g2, l2⟩, ⟨g3, l3⟩, ⟨g4, l4⟩, ⟨g5, l5⟩, ⟨g6, l6⟩, ⟨g7, l7⟩⟩ := g
  rw [g0, g1, g2, g3, g4, g5, g6, g7]
  rw [show 8 * [x % 256, x / 256 % 256, x / 65536 % 256, x / 16777216 % 256, x / 4294967296 % 256, x / 1099511627776 % 256, x / 281474976710656 % 256, x / 72057594037927936 % 256].length = 64 from rfl] at hp
  rw [hp]
  clear t1 t2 t3 v1 v2 g0 g1 g2 g3 g4 g5 g6 g7 hlt hv hl hp hx
  generalize Lib.popAux 8 (x % 256) = c0 at *
  generalize Lib.popAux 8 (x / 256 % 256) = c1 at *
  generalize Lib.popAux 8 (x / 65536 % 256) = c2 at *
  generalize Lib.popAux 8 (x / 16777216 % 256) = c3 at *
  generalize Lib.popAux 8 (x / 4294967296 % 256) = c4 at *
  generalize Lib.popAux 8 (x / 1099511627776 % 256) = c5 at *
  generalize Lib.popAux 8 (x / 281474976710656 % 256) = c6 at *
  generalize Lib.popAux 8 (x / 72057594037927936 % 256) = c7 at *
  have L := last_steps c0 c1 c2 c3 c4 c5 c6 c7 l0 l1 l2 l3 l4 l5 l6 l7
  have ev : val [c0, c1, c2, c3, c4, c5, c6, c7] = c0 + 256 * c1 + 65536 * c2 + 16777216 * c3 + 4294967296 * c4 + 1099511627776 * c5 + 281474976710656 * c6 + 72057594037927936 * c7 := by unfold val val val val val val val val val; omega
  have es : sumL [c0, c1, c2, c3, c4, c5, c6, c7] = c0 + c1 + c2 + c3 + c4 + c5 + c6 + c7 := by unfold sumL sumL sumL sumL sumL sumL sumL sumL sumL; omega
  rw [es, ev]
  refine ⟨(L _ _ _ _ rfl rfl rfl rfl).2.1, fun y z u hy hz hu => ?_⟩
  obtain ⟨r1, _, r2, r3, r4⟩ := L _ y z u rfl hy hz hu
  exact ⟨r1, r2, r3, r4⟩

end Go.Proofs.YtnfjabohnjbgbaaDoor.Occ
