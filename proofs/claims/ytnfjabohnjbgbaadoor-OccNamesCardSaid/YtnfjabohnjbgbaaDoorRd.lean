/- Slices of integers in memory: what a walk is told of them. -/
import Derived.Test.YtnfjabohnjbgbaaDoorKit
import Derived.WalkSpells
import Derived.WalkLawsBesides
import Derived.WalkSmall
namespace Go.Proofs.YtnfjabohnjbgbaaDoor
open Go.RowKit

/-- The numbers zs stand in a row of cells at the address (which is any, where there are none). -/
def Rd (k : IntKind) (w : World) (a : Option Addr) (zs : List Int) : Prop :=
  zs = [] ∨ ∃ b off, a = some ⟨b, off, none⟩ ∧ b < w.heap.size ∧ ∀ i, i < zs.length → w.cell? ⟨b, off + i, none⟩ = some (.int k (zs.getD i 0))

theorem Rd.nil {k : IntKind} {w : World} {a : Option Addr} : Rd k w a [] := .inl rfl

theorem Rd.mono {k : IntKind} {w w1 : World} {a : Option Addr} {zs : List Int} {n : Nat} (h : Rd k w a zs) (hb : Below n w w1) (hn : w.heap.size ≤ n) : Rd k w1 a zs := by
  rcases h with h | ⟨b, off, ha, hlt, hc⟩
  · exact .inl h
  · exact .inr ⟨b, off, ha, Nat.lt_of_lt_of_le hlt hb.size, fun i hi => (hb.cell (p := ⟨b, off + i, none⟩) (Nat.lt_of_lt_of_le hlt hn)).trans (hc i hi)⟩

theorem Rd.take {k : IntKind} {w : World} {a : Option Addr} {zs : List Int} (h : Rd k w a zs) (n : Nat) : Rd k w a (zs.take n) := by
  rcases h with h | ⟨b, off, ha, hb, hc⟩
  · subst h; left; simp
  · refine .inr ⟨b, off, ha, hb, fun i hi => ?_⟩
    have hi2 : i < n ∧ i < zs.length := by simpa [List.length_take, Nat.lt_min] using hi
    rw [hc i hi2.2]
    simp [List.getD_eq_getElem?_getD, List.getElem?_take_of_lt hi2.1]

/-- What a call has made and owns. -/
theorem Rd.of_owns {k : IntKind} {w : World} {base : Nat} {e : TypeId} {v : Value} {n : Nat} {zs : List Int} (h : w.ownsRow base e 1 v n (zs.map (Value.int k))) : ∃ a cap, v = .slice a zs.length cap ∧ n = zs.length ∧ Rd k w a zs := by
  obtain ⟨hl, h⟩ := h
  have hn : n = zs.length := by simpa using hl.symm
  rcases h with ⟨rfl, h0⟩ | ⟨g, cap, cur, rfl, hg, hh, hc, hm, hs, ht⟩
  · exact ⟨none, 0, by rw [← hn, h0], hn, .inl (by cases zs with | nil => rfl | cons _ _ => simp at hn; omega)⟩
  · refine ⟨some ⟨g, 0, none⟩, cap, by rw [hn], hn, ?_⟩
    right
    have hlt : g < w.heap.size := by
      rcases Nat.lt_or_ge g w.heap.size with h | h
      · exact h
      · rw [Array.getElem?_eq_none h] at hh; cases hh
    refine ⟨g, 0, rfl, hlt, fun i hi => ?_⟩
    rw [Nat.mul_one] at ht hs
    have hi2 : i < cur.size := by omega
    have hv : cur[i]? = some (.int k (zs.getD i 0)) := by
      have : (cur.toList.take n)[i]? = (zs.map (Value.int k))[i]? := by rw [ht]
      rw [List.getElem?_take_of_lt (by omega)] at this
      rw [Array.getElem?_toList] at this
      rw [this]
      simp [hi]
    simp [World.cell?, hh, hv]

end Go.Proofs.YtnfjabohnjbgbaaDoor
