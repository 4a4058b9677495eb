/- Small lemmas for the ends of walks: no program in sight. Slices of integers in memory: what a walk is told of them. Bits of words: how many are set; the lowest. Bits of words: how many are set: the last steps. Bits of words: how many are set: the last steps. Contracts of math/bits: OnesCount64, TrailingZeros64. Contracts of math/bits: TrailingZeros64. Which slots are occupied: plain. Contracts of package occ and of the document's answer: Check, Has. Contracts of package occ and of the document's answer: May, Check, asked, Has. Contracts of package occ and of the document's answer: asked, Has. Ranges over functions: a region inside the wide fence that reads first; 'slices.Collect' of numbers. Lists of numbers in memory: the document's functions that compare them, or ask whether they rise. Laws for the walk: 'append([]T{}, xs...)' of integers that can be read, and 'append(out, v, ..)' of values behind a row of the call's own. Loops that write a slice over; what lies apart from it. -/
import Derived.WalkKit
import Derived.Lib.Hide
import Derived.WalkSpells
import Derived.WalkLawsBesides
import Derived.WalkSmall
import Derived.Shelf.Spec.TrailingZeros
import Derived.Lib.BitFns
import Derived.Test.YtiemfklonhlnnaaProg
import Derived.RangeFuncBox
import Derived.RangeFuncLeaves
import Derived.RangeFuncNested
import Derived.RangeFuncBound
import Derived.RangeFuncCalls
import Derived.Shelf.Abstract
import Derived.OwnWalkIn
import Derived.TacticsInMore
import Derived.LoopNIn
import Derived.LoopIn
import Derived.Maps.AppendAt
import Derived.StillTailTactics
import Derived.Sort.QuietIn
import Derived.Laws.AppendOwnNone
import Derived.Deep.Onto
import Derived.OwnWalk
import Derived.Laws.OwnMore
set_option linter.unusedSimpArgs false
set_option linter.unusedVariables false
namespace Go.Proofs.Ytiemfklonhlnnaa
open Go.RowKit

theorem ret_int {k : IntKind} {a b : Int} (h : a = b) : Ending.returned (.int k a) = .returned (.int k b) := by rw [h]
theorem ret_bool {a b : Bool} (h : a = b) : Ending.returned (.bool a) = .returned (.bool b) := by rw [h]
theorem ret_ii {k l : IntKind} {a b c d : Int} (h : a = b) (g : c = d) : Ending.returned (.tuple #[.int k a, .int l c]) = .returned (.tuple #[.int k b, .int l d]) := by rw [h, g]
/-- Two numbers that are a pair's. -/
theorem ret_pair {k l : IntKind} {a c : Int} {p : Int × Int} (h : p = (a, c)) : Ending.returned (.tuple #[.int k a, .int l c]) = .returned (.tuple #[.int k p.1, .int l p.2]) := by rw [h]

/-- Facts on all old cells and marks, behind a contract that only makes memory. -/
theorem bcell {W w1 : World} (hb : Below W.heap.size W w1) : (∀ b o, b < W.heap.size → w1.cell? ⟨b, o, none⟩ = W.cell? ⟨b, o, none⟩) ∧ (∀ b o, b < W.heap.size → w1.frozen? ⟨b, o, none⟩ = W.frozen? ⟨b, o, none⟩) :=
  ⟨fun b o h => hb.cell (p := ⟨b, o, none⟩) h, fun b o h => hb.frozen (p := ⟨b, o, none⟩) h⟩

/-- One step more. -/
theorem bstep {W0 w w' : World} (h : Below W0.heap.size W0 w) (h2 : Below w.heap.size w w') : Below W0.heap.size W0 w' := h.trans (h2.mono h.size)

/-- An int's bounds. -/
theorem bd64 {n : Int} (h : (Lit.int .i64 n).wf = true) : -9223372036854775808 ≤ n ∧ n ≤ 9223372036854775807 := by
  simp [Lit.wf, IntKind.min, IntKind.max, IntKind.signed, IntKind.bits] at h
  omega
end Go.Proofs.Ytiemfklonhlnnaa

namespace Go.Proofs.Ytiemfklonhlnnaa
open Go.RowKit

/-- The numbers zs stand in a row of cells at the address (which is any, where there are none). -/
def Rd (k : IntKind) (w : World) (a : Option Addr) (zs : List Int) : Prop :=
  zs = [] ∨ ∃ b off, a = some ⟨b, off, none⟩ ∧ b < w.heap.size ∧ ∀ i, i < zs.length → w.cell? ⟨b, off + i, none⟩ = some (.int k (zs.getD i 0))

theorem Rd.nil {k : IntKind} {w : World} {a : Option Addr} : Rd k w a [] := .inl rfl

theorem Rd.mono {k : IntKind} {w w1 : World} {a : Option Addr} {zs : List Int} {n : Nat} (h : Rd k w a zs) (hb : Below n w w1) (hn : w.heap.size ≤ n) : Rd k w1 a zs := by
  rcases h with h | ⟨b, off, ha, hlt, hc⟩
  · exact .inl h
  · exact .inr ⟨b, off, ha, Nat.lt_of_lt_of_le hlt hb.size, fun i hi => (hb.cell (p := ⟨b, off + i, none⟩) (Nat.lt_of_lt_of_le hlt hn)).trans (hc i hi)⟩

theorem Rd.take {k : IntKind} {w : World} {a : Option Addr} {zs : List Int} (h : Rd k w a zs) (n : Nat) : Rd k w a (zs.take n) := by
  rcases h with h | ⟨b, off, ha, hb, hc⟩
  · subst h; left; simp
  · refine .inr ⟨b, off, ha, hb, fun i hi => ?_⟩
    have hi2 : i < n ∧ i < zs.length := by simpa [List.length_take, Nat.lt_min] using hi
    rw [hc i hi2.2]
    simp [List.getD_eq_getElem?_getD, List.getElem?_take_of_lt hi2.1]

/-- What a call has made and owns. -/
theorem Rd.of_owns {k : IntKind} {w : World} {base : Nat} {e : TypeId} {v : Value} {n : Nat} {zs : List Int} (h : w.ownsRow base e 1 v n (zs.map (Value.int k))) : ∃ a cap, v = .slice a zs.length cap ∧ n = zs.length ∧ Rd k w a zs := by
  obtain ⟨hl, h⟩ := h
  have hn : n = zs.length := by simpa using hl.symm
  rcases h with ⟨rfl, h0⟩ | ⟨g, cap, cur, rfl, hg, hh, hc, hm, hs, ht⟩
  · exact ⟨none, 0, by rw [← hn, h0], hn, .inl (by cases zs with | nil => rfl | cons _ _ => simp at hn; omega)⟩
  · refine ⟨some ⟨g, 0, none⟩, cap, by rw [hn], hn, ?_⟩
    right
    have hlt : g < w.heap.size := by
      rcases Nat.lt_or_ge g w.heap.size with h | h
      · exact h
      · rw [Array.getElem?_eq_none h] at hh; cases hh
    refine ⟨g, 0, rfl, hlt, fun i hi => ?_⟩
    rw [Nat.mul_one] at ht hs
    have hi2 : i < cur.size := by omega
    have hv : cur[i]? = some (.int k (zs.getD i 0)) := by
      have : (cur.toList.take n)[i]? = (zs.map (Value.int k))[i]? := by rw [ht]
      rw [List.getElem?_take_of_lt (by omega)] at this
      rw [Array.getElem?_toList] at this
      rw [this]
      simp [hi]
    simp [World.cell?, hh, hv]

end Go.Proofs.Ytiemfklonhlnnaa

namespace Go.Proofs.Ytiemfklonhlnnaa.Occ
open Go.RowKit Go.Shelf Go.Proofs.Ytiemfklonhlnnaa

/-! ### Numbers by bytes -/
def val : List Nat → Nat
  | [] => 0
  | b :: l => b + 256 * val l
def rep (m : Nat) : Nat → Nat
  | 0 => 0
  | n + 1 => m + 256 * rep m n
theorem split_and (a b c d : Nat) (ha : a < 256) (hc : c < 256) : (a + 256 * b) &&& (c + 256 * d) = (a &&& c) + 256 * (b &&& d) := by
  have hac : a &&& c < 256 := Nat.and_lt_two_pow (n := 8) _ hc
  have h1 : ((a + 256 * b) &&& (c + 256 * d)) % 2 ^ 8 = a &&& c := by
    rw [Nat.and_mod_two_pow]
    congr 1 <;> omega
  have h2 : ((a + 256 * b) &&& (c + 256 * d)) / 2 ^ 8 = b &&& d := by
    rw [Nat.and_div_two_pow]
    congr 1 <;> omega
  have h3 := Nat.div_add_mod ((a + 256 * b) &&& (c + 256 * d)) (2 ^ 8)
  omega
def B1 (b : Nat) : Nat := (b / 2 &&& 85) + (b &&& 85)
def B2 (b : Nat) : Nat := (b / 4 &&& 51) + (b &&& 51)
def B3 (b : Nat) : Nat := (b / 16 + b) &&& 15
theorem b1_fact : ∀ b, b < 256 → ∀ e, e < 2 → (b / 2 + 128 * e) &&& 85 = b / 2 &&& 85 := by decide +kernel
theorem b2_fact : ∀ b, b < 256 → ∀ e, e < 4 → (b / 4 + 64 * e) &&& 51 = b / 4 &&& 51 := by decide +kernel
theorem b3_fact : ∀ b, b < 256 → ∀ e, e < 5 → (b / 16 + 16 * e + b) &&& 15 = (b / 16 + b) &&& 15 := by decide +kernel
theorem b1_lt : ∀ b, b < 256 → B1 b < 256 := by decide +kernel
theorem b2_lt : ∀ b, b < 256 → B2 (B1 b) < 256 ∧ B2 (B1 b) % 16 ≤ 4 ∧ B2 (B1 b) / 16 ≤ 4 := by decide +kernel
theorem b3_is : ∀ b, b < 256 → B3 (B2 (B1 b)) = Lib.popAux 8 b ∧ Lib.popAux 8 b ≤ 8 := by decide +kernel
theorem s1 (l : List Nat) (h : ∀ b ∈ l, b < 256) : (val l / 2 &&& rep 85 l.length) + (val l &&& rep 85 l.length) = val (l.map B1) := by
  induction l with
  | nil => rfl
  | cons b l ih =>
    have hb := h b (by simp)
    have ih := ih (fun c hc => h c (by simp [hc]))
    have e : val (b :: l) / 2 = (b / 2 + 128 * (val l % 2)) + 256 * (val l / 2) := by show (b + 256 * val l) / 2 = _; omega
    rw [e, show rep 85 (b :: l).length = 85 + 256 * rep 85 l.length from rfl, show val (b :: l) = b + 256 * val l from rfl, split_and _ _ _ _ (by omega) (by omega), split_and _ _ _ _ hb (by omega), b1_fact b hb _ (Nat.mod_lt _ (by decide))]
    show _ = B1 b + 256 * val (l.map B1)
    rw [← ih]; unfold B1; omega
theorem s2 (l : List Nat) (h : ∀ b ∈ l, b < 256) : (val l / 4 &&& rep 51 l.length) + (val l &&& rep 51 l.length) = val (l.map B2) := by
  induction l with
  | nil => rfl
  | cons b l ih =>
    have hb := h b (by simp)
    have ih := ih (fun c hc => h c (by simp [hc]))
    have e : val (b :: l) / 4 = (b / 4 + 64 * (val l % 4)) + 256 * (val l / 4) := by show (b + 256 * val l) / 4 = _; omega
    rw [e, show rep 51 (b :: l).length = 51 + 256 * rep 51 l.length from rfl, show val (b :: l) = b + 256 * val l from rfl, split_and _ _ _ _ (by omega) (by omega), split_and _ _ _ _ hb (by omega), b2_fact b hb _ (Nat.mod_lt _ (by decide))]
    show _ = B2 b + 256 * val (l.map B2)
    rw [← ih]; unfold B2; omega
theorem val_mod (l : List Nat) (h : ∀ b ∈ l, b < 256 ∧ b % 16 ≤ 4 ∧ b / 16 ≤ 4) : val l % 16 ≤ 4 := by
  cases l with
  | nil => decide
  | cons b l => have := h b (by simp); show (b + 256 * val l) % 16 ≤ 4; omega
theorem s3 (l : List Nat) (h : ∀ b ∈ l, b < 256 ∧ b % 16 ≤ 4 ∧ b / 16 ≤ 4) : ((val l / 16 + val l) &&& rep 15 l.length) = val (l.map B3) := by
  induction l with
  | nil => rfl
  | cons b l ih =>
    have hb := h b (by simp)
    have hl : ∀ c ∈ l, c < 256 ∧ c % 16 ≤ 4 ∧ c / 16 ≤ 4 := fun c hc => h c (by simp [hc])
    have ih := ih hl
    have hm := val_mod l hl
    have e : val (b :: l) / 16 + val (b :: l) = (b / 16 + 16 * (val l % 16) + b) + 256 * (val l / 16 + val l) := by show (b + 256 * val l) / 16 + (b + 256 * val l) = _; omega
    rw [e, show rep 15 (b :: l).length = 15 + 256 * rep 15 l.length from rfl, split_and _ _ _ _ (by omega) (by omega), b3_fact b hb.1 _ (by omega), ih]
    rfl
/-! ### How many bits are set -/
theorem pop_split (k f : Nat) : ∀ b y, b < 2 ^ k → Lib.popAux (k + f) (b + 2 ^ k * y) = Lib.popAux k b + Lib.popAux f y := by
  induction k with
  | zero => intro b y hb; have : b = 0 := by omega
            subst this; simp [Lib.popAux]
  | succ k ih =>
    intro b y hb
    have e0 : 2 ^ (k + 1) * y = 2 * (2 ^ k * y) := by rw [Nat.pow_succ, Nat.mul_comm (2 ^ k) 2, Nat.mul_assoc]
    have e : (b + 2 ^ (k + 1) * y) / 2 = b / 2 + 2 ^ k * y := by rw [e0]; omega
    have e2 : (b + 2 ^ (k + 1) * y) % 2 = b % 2 := by rw [e0]; omega
    rw [show k + 1 + f = (k + f) + 1 by omega]
    show (b + 2 ^ (k + 1) * y) % 2 + Lib.popAux (k + f) ((b + 2 ^ (k + 1) * y) / 2) = b % 2 + Lib.popAux k (b / 2) + Lib.popAux f y
    rw [e, e2, ih (b / 2) y (by rw [Nat.pow_succ] at hb; omega), Nat.add_assoc]
def bytes8 (x : Nat) : List Nat := [x % 256, x / 256 % 256, x / 65536 % 256, x / 16777216 % 256, x / 4294967296 % 256, x / 1099511627776 % 256, x / 281474976710656 % 256, x / 72057594037927936 % 256]
theorem bytes8_val (x : Nat) (h : x < 18446744073709551616) : val (bytes8 x) = x := by
  unfold bytes8 val val val val val val val val val; omega
theorem bytes8_lt (x : Nat) : ∀ b ∈ bytes8 x, b < 256 := by
  intro b hb
  unfold bytes8 at hb
  simp only [List.mem_cons, List.not_mem_nil, or_false] at hb
  omega
def sumL : List Nat → Nat
  | [] => 0
  | b :: l => b + sumL l
theorem pop_val (l : List Nat) (h : ∀ b ∈ l, b < 256) : Lib.popAux (8 * l.length) (val l) = sumL (l.map (Lib.popAux 8)) := by
  induction l with
  | nil => rfl
  | cons b l ih =>
    have := pop_split 8 (8 * l.length) b (val l) (h b (by simp))
    rw [show 8 * (b :: l).length = 8 + 8 * l.length by simp; omega, show val (b :: l) = b + 2 ^ 8 * val l from rfl, this, ih (fun c hc => h c (by simp [hc]))]
    rfl

end Go.Proofs.Ytiemfklonhlnnaa.Occ

namespace Go.Proofs.Ytiemfklonhlnnaa.Occ
open Go.RowKit Go.Shelf Go.Proofs.Ytiemfklonhlnnaa

theorem div_at {lo hi b n : Nat} (h : n = lo + b * hi) (hl : lo < b) : n / b = hi := by
  rw [h, Nat.add_mul_div_left _ _ (by omega), Nat.div_eq_of_lt hl, Nat.zero_add]
theorem last_steps (c0 c1 c2 c3 c4 c5 c6 c7 : Nat) (h0 : c0 ≤ 8) (h1 : c1 ≤ 8) (h2 : c2 ≤ 8) (h3 : c3 ≤ 8) (h4 : c4 ≤ 8) (h5 : c5 ≤ 8) (h6 : c6 ≤ 8) (h7 : c7 ≤ 8) (a y z u : Nat)
    (ha : a = c0 + 256 * c1 + 65536 * c2 + 16777216 * c3 + 4294967296 * c4 + 1099511627776 * c5 + 281474976710656 * c6 + 72057594037927936 * c7)
    (hy : y = a + a / 256) (hz : z = y + y / 65536) (hu : u = z + z / 4294967296) : u % 128 = c0 + c1 + c2 + c3 + c4 + c5 + c6 + c7 ∧ a ≤ 600000000000000000 ∧ y ≤ 1200000000000000000 ∧ z ≤ 2400000000000000000 ∧ u ≤ 4800000000000000000 := by
  have e1 : a / 256 = c1 + 256 * c2 + 65536 * c3 + 16777216 * c4 + 4294967296 * c5 + 1099511627776 * c6 + 281474976710656 * c7 := div_at (lo := c0) (by rw [ha]; omega) (by omega)
  have b1 : a ≤ 600000000000000000 := by rw [ha]; omega
  have b2 : y ≤ 1200000000000000000 := by have := Nat.div_le_self a 256; rw [hy]; exact Nat.add_le_add b1 (Nat.le_trans this b1)
  have b3 : z ≤ 2400000000000000000 := by have := Nat.div_le_self y 65536; rw [hz]; exact Nat.add_le_add b2 (Nat.le_trans this b2)
  have b4 : u ≤ 4800000000000000000 := by have := Nat.div_le_self z 4294967296; rw [hu]; exact Nat.add_le_add b3 (Nat.le_trans this b3)
  refine ⟨?_, b1, b2, b3, b4⟩
  rw [e1, ha] at hy
  clear b1 b2 b3 b4 e1 ha
  have e3 : y / 65536 = (c2 + c3) + 256 * (c3 + c4) + 65536 * (c4 + c5) + 16777216 * (c5 + c6) + 4294967296 * (c6 + c7) + 1099511627776 * c7 := div_at (lo := (c0 + c1) + 256 * (c1 + c2)) (by rw [hy]; omega) (by omega)
  rw [e3, hy] at hz
  clear e3 hy
  have e5 : z / 4294967296 = (c4 + c5 + c6 + c7) + 256 * (c5 + c6 + c7) + 65536 * (c6 + c7) + 16777216 * c7 := div_at (lo := (c0 + c1 + c2 + c3) + 256 * (c1 + c2 + c3 + c4) + 65536 * (c2 + c3 + c4 + c5) + 16777216 * (c3 + c4 + c5 + c6)) (by rw [hz]; omega) (by omega)
  rw [e5, hz] at hu
  clear e5 hz
  obtain ⟨r, hr⟩ : ∃ r, u = (c0 + c1 + c2 + c3 + c4 + c5 + c6 + c7) + 128 * r := ⟨2 * ((c1 + c2 + c3 + c4 + c5 + c6 + c7) + 256 * (c2 + c3 + c4 + c5 + c6 + c7) + 65536 * (c3 + c4 + c5 + c6 + c7) + 16777216 * (c4 + c5 + c6 + c7) + 4294967296 * (c5 + c6 + c7) + 1099511627776 * (c6 + c7) + 281474976710656 * c7), by rw [hu]; omega⟩
  rw [hr, Nat.add_mul_mod_self_left]
  exact Nat.mod_eq_of_lt (by omega)
end Go.Proofs.Ytiemfklonhlnnaa.Occ

namespace Go.Proofs.Ytiemfklonhlnnaa.Occ
open Go.RowKit Go.Shelf Go.Proofs.Ytiemfklonhlnnaa

theorem val_lt (l : List Nat) (h : ∀ b ∈ l, b < 256) : ∀ n, l.length ≤ n → val l < 256 ^ n := by
  induction l with
  | nil => intro n _; exact Nat.pow_pos (by decide)
  | cons b l ih =>
    intro n hn
    obtain ⟨m, rfl⟩ : ∃ m, n = m + 1 := ⟨n - 1, by simp at hn; omega⟩
    have := ih (fun c hc => h c (by simp [hc])) m (by simpa using hn)
    have hb := h b (by simp)
    show b + 256 * val l < _
    rw [Nat.pow_succ]; omega
theorem val_lt2 (l : List Nat) (h : ∀ b ∈ l, b < 128) : ∀ n, l.length ≤ n → 2 * val l < 256 ^ n := by
  induction l with
  | nil => intro n _; exact Nat.pow_pos (by decide)
  | cons b l ih =>
    intro n hn
    obtain ⟨m, rfl⟩ : ∃ m, n = m + 1 := ⟨n - 1, by simp at hn; omega⟩
    have := ih (fun c hc => h c (by simp [hc])) m (by simpa using hn)
    have hb := h b (by simp)
    show 2 * (b + 256 * val l) < _
    rw [Nat.pow_succ]; omega
theorem pop_key (x : Nat) (hx : x < 18446744073709551616) : ∃ a1 a2 a3 a4 a5 : Nat, x / 2 &&& 6148914691236517205 = a1 ∧ x &&& 6148914691236517205 = a2 ∧ a1 + a2 < 18446744073709551616 ∧
    (a1 + a2) / 4 &&& 3689348814741910323 = a3 ∧ (a1 + a2) &&& 3689348814741910323 = a4 ∧ a3 + a4 < 1152921504606846976 * 8 ∧
    ((a3 + a4) / 16 + (a3 + a4)) &&& 1085102592571150095 = a5 ∧ a5 ≤ 600000000000000000 ∧
    (∀ y z u, y = a5 + a5 / 256 → z = y + y / 65536 → u = z + z / 4294967296 → u % 128 = Lib.popAux 64 x ∧ y ≤ 1200000000000000000 ∧ z ≤ 2400000000000000000 ∧ u ≤ 4800000000000000000) := by
  have hv := bytes8_val x hx
  have hlt := bytes8_lt x
  have hp := pop_val (bytes8 x) hlt
  rw [hv] at hp
  have t1 := s1 (bytes8 x) hlt
  rw [hv] at t1
  have h1 : ∀ b ∈ (bytes8 x).map B1, b < 256 := by
    intro b hb; obtain ⟨c, hc, rfl⟩ := List.mem_map.1 hb; exact b1_lt c (hlt c hc)
  have t2 := s2 ((bytes8 x).map B1) h1
  have h2 : ∀ b ∈ ((bytes8 x).map B1).map B2, b < 256 ∧ b % 16 ≤ 4 ∧ b / 16 ≤ 4 := by
    intro b hb; obtain ⟨c, hc, rfl⟩ := List.mem_map.1 hb; obtain ⟨d, hd, rfl⟩ := List.mem_map.1 hc; exact b2_lt d (hlt d hd)
  have t3 := s3 (((bytes8 x).map B1).map B2) h2
  have g : ∀ b ∈ bytes8 x, B3 (B2 (B1 b)) = Lib.popAux 8 b ∧ Lib.popAux 8 b ≤ 8 := fun b hb => b3_is b (hlt b hb)
  have hl : (bytes8 x).length = 8 := rfl
  rw [List.length_map, List.length_map, hl, show rep 15 8 = 1085102592571150095 by decide] at t3
  rw [List.length_map, hl, show rep 51 8 = 3689348814741910323 by decide] at t2
  rw [hl, show rep 85 8 = 6148914691236517205 by decide] at t1
  have v1 : val ((bytes8 x).map B1) < 18446744073709551616 := val_lt _ h1 8 (by rw [List.length_map]; exact Nat.le_refl _)
  have v2 : val (((bytes8 x).map B1).map B2) < 1152921504606846976 * 8 := by
    have := val_lt2 _ (fun b hb => (show b < 128 by have := h2 b hb; omega)) 8 (by rw [List.length_map, List.length_map]; exact Nat.le_refl _)
    have e : (256 : Nat) ^ 8 = 18446744073709551616 := by decide
    omega
  clear h1 h2
  refine ⟨_, _, _, _, _, rfl, rfl, by rw [t1]; exact v1, rfl, rfl, by rw [t1, t2]; exact v2, rfl, ?_⟩
  rw [t1, t2, t3]
  unfold bytes8 at g hp ⊢
  simp only [List.map_cons, List.map_nil, List.mem_cons, List.not_mem_nil, or_false, forall_eq_or_imp, forall_eq] at g hp ⊢
  obtain ⟨⟨g0, l0⟩, ⟨g1, l1⟩, ⟨g2, l2⟩, ⟨g3, l3⟩, ⟨g4, l4⟩, ⟨g5, l5⟩, ⟨g6, l6⟩, ⟨g7, l7⟩⟩ := g
  rw [g0, g1, g2, g3, g4, g5, g6, g7]
  rw [show 8 * [x % 256, x / 256 % 256, x / 65536 % 256, x / 16777216 % 256, x / 4294967296 % 256, x / 1099511627776 % 256, x / 281474976710656 % 256, x / 72057594037927936 % 256].length = 64 from rfl] at hp
  rw [hp]
  clear t1 t2 t3 v1 v2 g0 g1 g2 g3 g4 g5 g6 g7 hlt hv hl hp hx
  generalize Lib.popAux 8 (x % 256) = c0 at *
  generalize Lib.popAux 8 (x / 256 % 256) = c1 at *
  generalize Lib.popAux 8 (x / 65536 % 256) = c2 at *
  generalize Lib.popAux 8 (x / 16777216 % 256) = c3 at *
  generalize Lib.popAux 8 (x / 4294967296 % 256) = c4 at *
  generalize Lib.popAux 8 (x / 1099511627776 % 256) = c5 at *
  generalize Lib.popAux 8 (x / 281474976710656 % 256) = c6 at *
  generalize Lib.popAux 8 (x / 72057594037927936 % 256) = c7 at *
  have L := last_steps c0 c1 c2 c3 c4 c5 c6 c7 l0 l1 l2 l3 l4 l5 l6 l7
  have ev : val [c0, c1, c2, c3, c4, c5, c6, c7] = c0 + 256 * c1 + 65536 * c2 + 16777216 * c3 + 4294967296 * c4 + 1099511627776 * c5 + 281474976710656 * c6 + 72057594037927936 * c7 := by unfold val val val val val val val val val; omega
  have es : sumL [c0, c1, c2, c3, c4, c5, c6, c7] = c0 + c1 + c2 + c3 + c4 + c5 + c6 + c7 := by unfold sumL sumL sumL sumL sumL sumL sumL sumL sumL; omega
  rw [es, ev]
  refine ⟨(L _ _ _ _ rfl rfl rfl rfl).2.1, fun y z u hy hz hu => ?_⟩
  obtain ⟨r1, _, r2, r3, r4⟩ := L _ y z u rfl hy hz hu
  exact ⟨r1, r2, r3, r4⟩

end Go.Proofs.Ytiemfklonhlnnaa.Occ

namespace Go.Proofs.Ytiemfklonhlnnaa.Occ
open Go.RowKit Go.Shelf Go.Proofs.Ytiemfklonhlnnaa

def popN (x : Nat) : Nat := Lib.popAux 64 x
theorem bits_and_i64_nat (a b : Nat) (ha : a < 9223372036854775808) (hb : b < 9223372036854775808) : bits .and .i64 (a : Int) (b : Int) = ((a &&& b : Nat) : Int) := by
  have hx : a &&& b < 2 ^ 63 := Nat.and_lt_two_pow _ (by omega)
  have h1 : (BitVec.ofInt 64 (a : Int)).toNat = a := by rw [BitVec.ofInt_natCast, BitVec.toNat_ofNat]; exact Nat.mod_eq_of_lt (by omega)
  have h2 : (BitVec.ofInt 64 (b : Int)).toNat = b := by rw [BitVec.ofInt_natCast, BitVec.toNat_ofNat]; exact Nat.mod_eq_of_lt (by omega)
  show IntKind.i64.wrap ((BitVec.ofInt 64 (a : Int) &&& BitVec.ofInt 64 (b : Int)).toNat : Int) = _
  rw [BitVec.toNat_and, h1, h2, IntKind.wrap_i64]
  omega

set_option maxRecDepth 100000 in
set_option maxHeartbeats 1000000 in
theorem OnesCount_any (x : Nat) (w : World) (hx : x < 18446744073709551616) : Calls Try.prog 60 #[.int .u64 x] w fun e w' => e = .returned (.int .i64 (popN x)) ∧ w' = w := by
  obtain ⟨a1, a2, a3, a4, a5, h1, h2, l2, h3, h4, l4, h5, l5, hr⟩ := pop_key x hx
  obtain ⟨y, hy⟩ : ∃ y, y = a5 + a5 / 256 := ⟨_, rfl⟩
  obtain ⟨z, hz⟩ : ∃ z, z = y + y / 65536 := ⟨_, rfl⟩
  obtain ⟨u, hu⟩ : ∃ u, u = z + z / 4294967296 := ⟨_, rfl⟩
  obtain ⟨r1, r2, r3, r4⟩ := hr y z u hy hz hu
  have HR : Hid (u % 128 = popN x) := Lib.hid r1
  have e1 : bits .and .u64 ((x : Int) / 2) 6148914691236517205 = (a1 : Int) := by
    have := bits_and_u64_nat (x / 2) 6148914691236517205 (by omega) (by decide)
    rw [h1] at this; exact this
  have e2 : bits .and .u64 (x : Int) 6148914691236517205 = (a2 : Int) := by
    have := bits_and_u64_nat x 6148914691236517205 hx (by decide)
    rw [h2] at this; exact this
  have e3 : bits .and .u64 (((a1 : Int) + (a2 : Int)) / 4) 3689348814741910323 = (a3 : Int) := by
    have := bits_and_u64_nat ((a1 + a2) / 4) 3689348814741910323 (by omega) (by decide)
    rw [h3] at this; exact this
  have e4 : bits .and .u64 ((a1 : Int) + (a2 : Int)) 3689348814741910323 = (a4 : Int) := by
    have := bits_and_u64_nat (a1 + a2) 3689348814741910323 (by omega) (by decide)
    rw [h4] at this; exact this
  have e5 : bits .and .u64 (((a3 : Int) + (a4 : Int)) / 16 + ((a3 : Int) + (a4 : Int))) 1085102592571150095 = (a5 : Int) := by
    have := bits_and_u64_nat ((a3 + a4) / 16 + (a3 + a4)) 1085102592571150095 (by omega) (by decide)
    rw [h5] at this; exact this
  have e6 : (a5 : Int) + (a5 : Int) / 256 = (y : Int) := by rw [hy]; rfl
  have e7 : (y : Int) + (y : Int) / 65536 = (z : Int) := by rw [hz]; rfl
  have e8 : (z : Int) + (z : Int) / 4294967296 = (u : Int) := by rw [hu]; rfl
  have e9 : bits .and .i64 (u : Int) 127 = ((popN x : Nat) : Int) := by
    have := bits_and_i64_nat u 127 (by omega) (by decide)
    rw [show (127 : Nat) = 2 ^ 7 - 1 from rfl, Nat.and_two_pow_sub_one_eq_mod, show 2 ^ 7 = 128 from rfl, HR.out] at this
    exact this
  clear h1 h2 h3 h4 h5 hr hy hz hu r1 HR
  go_enter Try.func60, Try.ntmps60
  go_wp2
  go_ret
  exact ⟨rfl, rfl⟩

end Go.Proofs.Ytiemfklonhlnnaa.Occ

namespace Go.Proofs.Ytiemfklonhlnnaa.Occ
open Go.RowKit Go.Shelf Go.Proofs.Ytiemfklonhlnnaa

/-- The table that the program's own initialiser lays. -/
def Tab (w : World) : Prop := TabAt 0 Lib.deBruijn64tab w ∧ 0 < w.heap.size
theorem Tab.mono {w w1 : World} (h : Tab w) (hb : Below w.heap.size w w1) : Tab w1 :=
  ⟨fun j hj => (hb.cell (p := ⟨0, j, Option.none⟩) h.2).trans (h.1 j hj), Nat.lt_of_lt_of_le h.2 hb.size⟩

end Go.Proofs.Ytiemfklonhlnnaa.Occ

namespace Go.Proofs.Ytiemfklonhlnnaa.Occ
open Go.RowKit Go.Proofs.Ytiemfklonhlnnaa

def wd (ws : List Int) (i : Nat) : Nat := (ws.getD i 0).toNat
def occB (ws : List Int) (s : Nat) : Bool := (wd ws (s / 64)).testBit (s % 64)
def U64 (ws : List Int) : Prop := ∀ x ∈ ws, 0 ≤ x ∧ x < 18446744073709551616
def mayB (ws : List Int) (n : Nat) : Bool := decide (ws.length = (n + 63) / 64) && (List.range (64 * ws.length - n)).all (fun i => !occB ws (n + i))
def chkV (ws : List Int) (n : Int) : Int := if n < 0 ∨ 65536 < n then 2 else if mayB ws n.toNat = true then 0 else 8

theorem wd_of {ws : List Int} (h : U64 ws) (i : Nat) : wd ws i < 18446744073709551616 := by
  unfold wd
  by_cases hi : i < ws.length
  · rw [show ws.getD i 0 = ws[i] by simp [List.getD_eq_getElem?_getD, hi]]
    have := h ws[i] (List.getElem_mem _)
    omega
  · rw [show ws.getD i 0 = 0 by simp [List.getD_eq_getElem?_getD, Nat.not_lt.1 hi]]; decide
theorem wd_int {ws : List Int} (h : U64 ws) (i : Nat) : ws.getD i 0 = ((wd ws i : Nat) : Int) := by
  unfold wd
  by_cases hi : i < ws.length
  · rw [show ws.getD i 0 = ws[i] by simp [List.getD_eq_getElem?_getD, hi]]
    have := h ws[i] (List.getElem_mem _)
    omega
  · rw [show ws.getD i 0 = 0 by simp [List.getD_eq_getElem?_getD, Nat.not_lt.1 hi]]; rfl
theorem mayB_iff {ws : List Int} {n : Nat} : mayB ws n = true ↔ ws.length = (n + 63) / 64 ∧ ∀ s, n ≤ s → s < 64 * ws.length → occB ws s = false := by
  unfold mayB
  rw [Bool.and_eq_true, decide_eq_true_eq, List.all_eq_true]
  constructor
  · rintro ⟨h1, h2⟩
    refine ⟨h1, fun s a b => ?_⟩
    have := h2 (s - n) (List.mem_range.2 (by omega))
    rw [show n + (s - n) = s by omega] at this
    simpa using this
  · rintro ⟨h1, h2⟩
    refine ⟨h1, fun i hi => ?_⟩
    have := List.mem_range.1 hi
    rw [h2 (n + i) (by omega) (by omega)]; rfl
theorem high_zero (x k : Nat) (hx : x < 2 ^ 64) : x / 2 ^ k = 0 ↔ ∀ i, k ≤ i → i < 64 → x.testBit i = false := by
  constructor
  · intro h i hi _
    apply Nat.testBit_lt_two_pow
    have h2 : x < 2 ^ k := (Nat.div_eq_zero_iff_lt (Nat.pow_pos (by decide))).1 h
    exact Nat.lt_of_lt_of_le h2 (Nat.pow_le_pow_right (by decide) hi)
  · intro h
    apply Nat.eq_of_testBit_eq
    intro i
    rw [Nat.testBit_div_two_pow, Nat.zero_testBit]
    by_cases hi : i + k < 64
    · exact h _ (by omega) hi
    · exact Nat.testBit_lt_two_pow (Nat.lt_of_lt_of_le hx (Nat.pow_le_pow_right (by decide) (by omega)))
/-- What the program looks at. -/
theorem mayB_last {ws : List Int} (hu : U64 ws) {n : Nat} (hl : ws.length = (n + 63) / 64) : mayB ws n = true ↔ (n % 64 = 0 ∨ wd ws (ws.length - 1) / 2 ^ (n % 64) = 0) := by
  rw [mayB_iff]
  constructor
  · rintro ⟨_, h⟩
    by_cases hz : n % 64 = 0
    · exact .inl hz
    · right
      rw [high_zero _ _ (wd_of hu _)]
      intro i h1 h2
      have := h (64 * (ws.length - 1) + i) (by omega) (by omega)
      unfold occB at this
      rwa [show (64 * (ws.length - 1) + i) / 64 = ws.length - 1 by omega, show (64 * (ws.length - 1) + i) % 64 = i by omega] at this
  · intro h
    refine ⟨hl, fun s h1 h2 => ?_⟩
    rcases h with h | h
    · omega
    · by_cases hz : n % 64 = 0
      · omega
      · rw [high_zero _ _ (wd_of hu _)] at h
        unfold occB
        rw [show s / 64 = ws.length - 1 by omega]
        exact h _ (by omega) (Nat.mod_lt _ (by decide))
theorem testBit_is (x k : Nat) : x.testBit k = decide (x / 2 ^ k % 2 = 1) := by
  rw [Nat.testBit_eq_decide_div_mod_eq]
theorem Rd.word {ws : List Int} {w : World} {a : Option Addr} (hu : U64 ws) (hr : Rd .u64 w a ws) (i : Nat) (hi : i < ws.length) : ∃ b off, a = some ⟨b, off, Option.none⟩ ∧ w.cell? ⟨b, off + i, Option.none⟩ = some (.int .u64 ((wd ws i : Nat) : Int)) := by
  rcases hr with h | ⟨b, off, ha, hlt, hc⟩
  · subst h; simp at hi
  · refine ⟨b, off, ha, ?_⟩
    rw [← wd_int hu]
    exact hc i hi

end Go.Proofs.Ytiemfklonhlnnaa.Occ

namespace Go.Proofs.Ytiemfklonhlnnaa.Occ
open Go.RowKit Go.Shelf Go.Proofs.Ytiemfklonhlnnaa

theorem chkV_far {ws : List Int} {n : Int} (h : n < 0 ∨ 65536 < n) : chkV ws n = 2 := if_pos h
theorem chkV_in {ws : List Int} {n : Nat} (h : n ≤ 65536) : chkV ws (n : Int) = if mayB ws n = true then 0 else 8 := by
  unfold chkV; rw [if_neg (by omega), Int.toNat_natCast]

set_option maxRecDepth 100000 in
set_option maxHeartbeats 1000000 in
theorem Check_any (a : Option Addr) (ca : Nat) (ws : List Int) (n : Int) (w : World) (hu : U64 ws) (hr : Rd .u64 w a ws) (hl : ws.length ≤ 100000) :
    Calls Try.prog 45 #[.slice a ws.length ca, .int .i64 n] w fun e w' => e = .returned (.int .i64 (chkV ws n)) ∧ w = w' := by
  by_cases h0 : n < 0
  · rw [chkV_far (.inl h0)]
    clear hr hu
    go_enter Try.func45, Try.ntmps45
    go_wp2
    go_ret
    exact ⟨rfl, rfl⟩
  by_cases h1 : 65536 < n
  · rw [chkV_far (.inr h1)]
    clear hr hu
    go_enter Try.func45, Try.ntmps45
    go_wp2
    go_ret
    exact ⟨rfl, rfl⟩
  obtain ⟨n, rfl⟩ := Int.eq_ofNat_of_zero_le (show 0 ≤ n by omega)
  rw [chkV_in (by omega)]
  by_cases hlen : ws.length = (n + 63) / 64
  · have HM := Lib.hid (mayB_last hu hlen)
    have hd : ((n : Int) + 64 - 1) / 64 = (ws.length : Int) := by omega
    by_cases hz : n % 64 = 0
    · have hz2 : (n : Int) % 64 = 0 := by omega
      rw [if_pos (HM.out.2 (.inl hz))]
      clear hr hu hz hlen
      go_enter Try.func45, Try.ntmps45
      go_wp2
      go_ret
      exact ⟨rfl, rfl⟩
    · obtain ⟨b, o, rfl, c1⟩ := Rd.word hu hr (ws.length - 1) (by omega)
      have hx := wd_of hu (ws.length - 1)
      have hlen0 : ws.length ≠ 0 := by omega
      have hm64 : n % 64 < 64 := Nat.mod_lt _ (by decide)
      have hm : (n : Int) % 64 = ((n % 64 : Nat) : Int) := rfl
      clear hr hu hlen
      generalize wd ws (ws.length - 1) = x at *
      generalize hL : ws.length - 1 = L at *
      have hL2 : (ws.length : Int) - 1 = (L : Int) := by omega
      have hL3 : L < ws.length := by omega
      clear hL
      generalize ws.length = ln at *
      generalize n % 64 = k at *
      have hk : 0 < (k : Int) := by omega
      by_cases hxx : x / 2 ^ k = 0
      · rw [if_pos (HM.out.2 (.inr hxx))]
        have hs : (x : Int) / 2 ^ k = 0 := by
          have : ((x / 2 ^ k : Nat) : Int) = 0 := by rw [hxx]; rfl
          simpa using this
        clear hxx
        go_enter Try.func45, Try.ntmps45
        go_wp2
        go_ret
        exact ⟨rfl, rfl⟩
      · rw [if_neg (fun g => (HM.out.1 g).elim hz hxx)]
        have hs : ¬ (x : Int) / 2 ^ k = 0 := by
          intro g
          have : ((x / 2 ^ k : Nat) : Int) = 0 := by simpa using g
          omega
        clear hxx
        go_enter Try.func45, Try.ntmps45
        go_wp2
        go_ret
        exact ⟨rfl, rfl⟩
  · have hd : ((n : Int) + 64 - 1) / 64 = (((n + 63) / 64 : Nat) : Int) := by omega
    rw [if_neg (fun g => hlen (mayB_iff.1 g).1)]
    clear hr hu
    generalize (n + 63) / 64 = q at *
    have hne : ((ws.length : Int) != (q : Int)) = true := by rw [bne_iff_ne]; omega
    clear hlen
    go_enter Try.func45, Try.ntmps45
    go_wp2
    go_ret
    exact ⟨rfl, rfl⟩

theorem ret_b {a b : Bool} (h : a = b) : Ending.returned (.bool a) = .returned (.bool b) := by rw [h]
end Go.Proofs.Ytiemfklonhlnnaa.Occ

namespace Go.Proofs.Ytiemfklonhlnnaa.Occ
open Go.RowKit Go.Shelf Go.Proofs.Ytiemfklonhlnnaa

end Go.Proofs.Ytiemfklonhlnnaa.Occ

namespace Go.Proofs.Ytiemfklonhlnnaa.Occ
open Go.RowKit Go.Shelf Go.Proofs.Ytiemfklonhlnnaa

def askV (ws : List Int) (n : Int) (b : Bool) : Int := if chkV ws n = 0 then (if b = true then 0 else 2) else chkV ws n
def atB (n s : Int) : Bool := decide (0 ≤ s) && decide (s < n)
def hasV (ws : List Int) (n s : Int) : Bool × Int := if askV ws n (atB n s) = 0 then (occB ws s.toNat, 0) else (false, askV ws n (atB n s))
theorem atB_iff {n s : Int} : atB n s = true ↔ 0 ≤ s ∧ s < n := by unfold atB; simp only [Bool.and_eq_true, decide_eq_true_eq]
/-- Words that may be. -/
theorem chkV_ok {ws : List Int} {n : Int} (h : chkV ws n = 0) : ∃ m : Nat, n = (m : Int) ∧ m ≤ 65536 ∧ ws.length = (m + 63) / 64 ∧ ∀ s, m ≤ s → s < 64 * ws.length → occB ws s = false := by
  unfold chkV at h
  by_cases h0 : n < 0 ∨ 65536 < n
  · rw [if_pos h0] at h; cases h
  · rw [if_neg h0] at h
    by_cases hm : mayB ws n.toNat = true
    · obtain ⟨m, rfl⟩ := Int.eq_ofNat_of_zero_le (show 0 ≤ n by omega)
      rw [Int.toNat_natCast] at hm
      exact ⟨m, rfl, by omega, mayB_iff.1 hm⟩
    · rw [if_neg hm] at h; cases h
theorem askV_ok {ws : List Int} {n : Int} {b : Bool} (h : askV ws n b = 0) : chkV ws n = 0 ∧ b = true := by
  unfold askV at h
  by_cases h0 : chkV ws n = 0
  · rw [if_pos h0] at h
    cases b with
    | true => exact ⟨h0, rfl⟩
    | false => cases h
  · rw [if_neg h0] at h; exact absurd h h0

set_option maxRecDepth 100000 in
set_option maxHeartbeats 1000000 in
theorem asked_any (a : Option Addr) (ca : Nat) (ws : List Int) (n : Int) (b : Bool) (w : World) (hu : U64 ws) (hr : Rd .u64 w a ws) (hl : ws.length ≤ 100000) :
    Calls Try.prog 58 #[.slice a ws.length ca, .int .i64 n, .bool b] w fun e w' => e = .returned (.int .i64 (askV ws n b)) ∧ w = w' := by
  have HC := Lib.hid (Check_any a ca ws n w hu hr hl)
  clear hu hr
  unfold askV
  generalize chkV ws n = c at *
  by_cases hc : c = 0
  · subst hc
    cases b
    all_goals
      go_enter Try.func58, Try.ntmps58
      go_wp2_with fail
      refine HC.out.mono ?_
      rintro e w' ⟨rfl, rfl⟩
      go_wp2
      go_ret
      exact ⟨rfl, rfl⟩
  · rw [if_neg hc]
    go_enter Try.func58, Try.ntmps58
    go_wp2_with fail
    refine HC.out.mono ?_
    rintro e w' ⟨rfl, rfl⟩
    go_wp2
    go_ret
    exact ⟨rfl, rfl⟩

theorem and_one (x k : Nat) (hx : x < 18446744073709551616) : bits .and .u64 ((x : Int) / 2 ^ k) 1 = ((x / 2 ^ k % 2 : Nat) : Int) := by
  have h := bits_and_u64_nat (x / 2 ^ k) 1 (Nat.lt_of_le_of_lt (Nat.div_le_self _ _) hx) (by decide)
  rw [Nat.and_one_is_mod] at h
  rw [← h]
  congr 1
end Go.Proofs.Ytiemfklonhlnnaa.Occ

namespace Go.Proofs.Ytiemfklonhlnnaa
open Go.RowKit

section
variable {P : Program} {ops : Array Oper} {md : Region.Mode} {w : World} {m : Nat}

theorem wpIn_of_still {o : Oper} {a : Act} {K : Act → Prop} {K' : Act → World → Prop} {Q' : Exit → Act → World → Prop} (h : ∀ a, K a → K' a w) (hh : o.still P a w K) : o.wpIn Fence.wide m P a w K' Q' := by
  unfold Oper.still at hh
  unfold Oper.wpIn
  refine ⟨fun _ _ => trivial, ?_⟩
  rw [show Fence.wide.round = Option.none from rfl, Oper.semAt_none]
  generalize (execOp a.eval o).run P w = r at *
  cases r with
  | ok n w' =>
    cases n <;> simp only [Oper.stillUpon] at hh <;> simp only [Oper.uponIn]
    case enter f args =>
      obtain ⟨rfl, v, hc, hn⟩ := hh
      exact ⟨fun h => (by cases h), (callsIn_wide.2 hc).mono fun e w'' ⟨he, hw⟩ => by subst he; subst hw; exact h _ hn⟩
    all_goals (obtain ⟨rfl, h2⟩ := hh; exact h _ h2)
  | halt x w' => simp only [Oper.stillUpon] at hh

theorem wpOpIn_of_stOp {i : Nat} {a : Act} {K : Act → Prop} {K' : Act → World → Prop} {Q' : Exit → Act → World → Prop} (h : ∀ a, K a → K' a w) (hh : stOp P ops w i K a) : wpOpIn Fence.wide m P ops Q' i K' a w := by
  unfold stOp at hh
  unfold wpOpIn
  split
  · rename_i ho; simp only [ho] at hh; exact h _ hh
  · rename_i o ho
    simp only [ho] at hh
    split
    · rename_i hw; simp only [hw, if_true] at hh; exact wpIn_of_still h hh
    · rename_i hw; simp only [hw] at hh; exact ⟨fun _ _ => trivial, h _ hh⟩

theorem wpAnyIn_of_head {n g : Nat} {L : Array Bool → Act → Prop} {Q' : Exit → Act → World → Prop} (hL : ∀ listed a, L listed a → wpAnyIn Fence.wide m P md ops Q' g listed a w) :
    ∀ (f : Nat) (listed : Array Bool) (a : Act), wpAnyL P md ops w n L f listed a → wpAnyIn Fence.wide m P md ops Q' (f + g) listed a w
  | 0, listed, a, h => by rw [Nat.zero_add]; exact hL _ _ h
  | f + 1, listed, a, h => by
    rw [show f + 1 + g = (f + g) + 1 by omega]
    exact ⟨fun h0 => absurd h0 h.1, fun i hi => wpOpIn_of_stOp (fun a' h' => wpAnyIn_of_head hL f _ a' h') (h.2 i hi).2⟩

theorem wpAnyIn_of_seq {F : Fence} {Q' : Exit → Act → World → Prop} : ∀ (l : List Oper) (k : Nat) (listed : Array Bool) (a : Act) (w : World), (∀ j, l[j]? = ops[k + j]?) →
    Region.seqB md ops l.length k listed = true → wpListIn F m P ops Q' l a w → wpAnyIn F m P md ops Q' l.length listed a w
  | [], _, _, _, _, _, hB, h => ⟨by simpa [Region.seqB] using hB, h⟩
  | o :: l, k, listed, a, w, hl, hB, h => by
    have h0 : ops[k]? = some o := by simpa using (hl 0).symm
    simp only [List.length_cons, Region.seqB, Bool.and_eq_true, decide_eq_true_eq] at hB
    refine ⟨fun h1 => (by rw [hB.1] at h1; cases h1), fun i hi => ?_⟩
    rw [hB.1] at hi
    have hik : i = k := by simpa using hi
    subst hik
    have hw : wpOpIn F m P ops Q' i (wpListIn F m P ops Q' l) a w := by unfold wpOpIn; simp only [h0]; exact h
    exact wpOpIn_mono (fun a' w' h' => wpAnyIn_of_seq l (i + 1) _ a' w' (fun j => by have := hl (j + 1); simpa [Nat.add_assoc, Nat.add_comm 1 j] using this) hB.2 h') hw

/-- A region that draws its order, inside the wide fence: what only reads comes first, the rest in its forced order. -/
theorem wpIn_region_still_tail {id : Nat} {Q : Exit → Act → World → Prop} {a : Act} {w : World} {l : List Oper} (n : Nat) (hm : P.follows .mixedOrders = true) (hB : Region.lexTailB .any l.toArray n = true)
    (h : wpStill P l.toArray w.drew (fun a' => wpListIn Fence.wide m P l.toArray Q (l.drop n) a' w.drew) (l.take n) a) : (Code.region id l.toArray true).wpIn Fence.wide m P Q a w := by
  simp only [Region.lexTailB, Bool.and_eq_true, decide_eq_true_eq] at hB
  obtain ⟨⟨⟨⟨hsel, hn⟩, hs⟩, hc⟩, hlex⟩ := hB
  have hn' : n < l.length := by simpa using hn
  have htl : (l.take n).length = n := by simp; omega
  have hdl : (l.drop n).length = l.toArray.size - n := by simp
  have inv0 : HeadInv .any l.toArray n (Array.replicate l.toArray.size false) :=
    ⟨by simp, fun j oj _ hl => (by rw [getD_replicate_false] at hl; cases hl), fun t _ ht => getD_in (by simpa using ht) (getD_replicate_false _ _)⟩
  have H := wpAnyL_lex (md := .any) (g := l.toArray.size - n) hsel hs hc hn (l.take n) 0 _ a (fun j hj => by
    have hj' : j < n := by rw [htl] at hj; exact hj
    simp [hj']) (by simpa using htl) inv0 (by rw [htl]; exact hlex) h
  refine wpIn_region_any hm ?_
  have := wpAnyIn_of_head (m := m) (Q' := Q) (g := l.toArray.size - n) (fun listed a' hL => by
    have := wpAnyIn_of_seq (m := m) (F := Fence.wide) (md := .any) (Q' := Q) (l.drop n) n listed a' w.drew (fun j => by simp [List.getElem?_drop]) (by rw [hdl]; exact hL.1) hL.2
    rwa [hdl] at this) _ _ _ H
  rw [htl, show n + (l.toArray.size - n) = l.toArray.size by omega] at this
  exact this
end

/-- What a round keeps that goes on: what lay below n0, and the blocks from lo on, ahead of hi. -/
structure Keeps (n0 lo hi : Nat) (W W' : World) : Prop where
  below : Below n0 W W'
  kept : ∀ k, lo ≤ k → k < hi → W'.heap[k]? = W.heap[k]?
theorem Keeps.t {n0 lo hi : Nat} {A B C : World} (h : Keeps n0 lo hi A B) (k : Keeps n0 lo hi B C) : Keeps n0 lo hi A C := ⟨h.below.trans k.below, fun i a b => (k.kept i a b).trans (h.kept i a b)⟩
theorem Keeps.refl (n0 lo hi : Nat) (W : World) : Keeps n0 lo hi W W := ⟨Below.refl _ _, fun _ _ _ => rfl⟩
theorem Keeps.b {n0 lo hi : Nat} {w : World} (hn : n0 ≤ w.heap.size) (hh : hi ≤ w.heap.size) (W : World) (l : Nat) (o o' : Obj) (hl : w.heap.size ≤ l) (h : W.heap[l]? = some o) (h1 : o.isCells = false) (h2 : o.isWalk = false) : Keeps n0 lo hi W (W.putObj l o') :=
  ⟨belowK_b hn W l o o' hl h h1 h2, fun k _ hk => World.putObj_heap_other (by omega)⟩
theorem Keeps.of_below {n0 lo hi B : Nat} {W W' : World} (h : Below B W W') (hn : n0 ≤ B) (hh : hi ≤ B) : Keeps n0 lo hi W W' := ⟨h.mono hn, fun k _ hk => h.block k (by omega)⟩
theorem Keeps.cell {n0 lo hi : Nat} {W W' : World} (h : Keeps n0 lo hi W W') {b o : Nat} (hl : lo ≤ b) (hh : b < hi) : W'.cell? ⟨b, o, Option.none⟩ = W.cell? ⟨b, o, Option.none⟩ := World.cell?_of_block (h.kept b hl hh)

theorem grown0 {W W' : World} (h : Below W.heap.size W W') : W.grownBy W' Option.none := ⟨h.os, h.tape, h.output, h.size, fun i hi _ => h.block i hi⟩

/-- The law for a loop over an iterator, the loop's frame being read off the goal: 'qs x' are the slots that yield and the loop's assignment write. -/
theorem rangeFunc_put {F : Fence} {n : Nat} {P : Program} {α : Type} {g : Operand} {ps : Array Tmp} {assign body : Code} {Q : Exit → Act → World → Prop} {a : Act} {w : World}
    (qs : α → List (Tmp × Value)) (hro : F.round = Option.none) (h1 : 1 ≤ n) {gf : Nat} {lb : Array Value} (hg : a.eval g = .func (.func gf) #[] lb) (hFg : F.fn gf) (eg : ∀ args w, (callFunc gf args).run P w = .ok (.enter gf args) w)
    {encs : α → Array Value} {Kp : World → World → Prop} {S Sp : List α → Prop} {N : Nat} {w0 : World} (hseq : SeqStopsK F (n - 1) P gf lb encs Kp S Sp N w0)
    (hKt : ∀ {A B C : World}, Kp A B → Kp B C → Kp A C) (hKb : ∀ (W : World) (l : Nat) (o o' : Obj), w.heap.size ≤ l → W.heap[l]? = some o → o.isCells = false → o.isWalk = false → Kp W (W.putObj l o')) (hb0 : Below w0.heap.size w0 w) (hps : ∀ x, (encs x).size = ps.size)
    (I : List α → World → Prop) (Ix : Code → List α → World → Prop) (hI : OwnFrom w.heap.size I) (hIx : ∀ c, OwnFrom w.heap.size (Ix c)) (h0 : I [] w)
    (hassign : ∀ (l : Nat) (x : α) (W : World) (K : Act → World → Prop), K { tmps := (qs x).foldl (fun t pv => t.setIfInBounds pv.1 pv.2) a.tmps, defers := [] } W →
      assign.wpIn (F.inRound l) (n - 1 - 1) P (Exit.then K (fun _ _ _ => False)) { tmps := (ps.zip (encs x)).foldl (fun t (p, v) => t.setIfInBounds p v) a.tmps, defers := [] } W)
    (hbody : ∀ (l : Nat) (pre : List α) (x : α) (W : World), I pre W → pre.length < N → body.wpIn (F.inRound l) (n - 1 - 1) P (ownPostG w.heap.size Kp I Ix (pre ++ [x]) W) { tmps := (qs x).foldl (fun t pv => t.setIfInBounds pv.1 pv.2) a.tmps, defers := [] } W)
    (hdone : ∀ (D : Nat) (xs : List α) (W : World), w.heap.size ≤ D → S xs → I xs W → W.heap[D]? = some (.deferred (some [])) → Q .normal { a with defers := { target := .collected D, args := #[] } :: a.defers } W)
    (hstop : ∀ (D : Nat) (c : Code) (pre : List α) (W : World), w.heap.size ≤ D → Sp pre → Ix c pre W → W.heap[D]? = some (.deferred (some [])) → c.wpIn F n P Q { a with defers := { target := .collected D, args := #[] } :: a.defers } W) :
    (Code.rangeFunc g ps assign body).wpIn F n P Q a w :=
  wpIn_rangeFunc_ownG hro h1 hg hFg eg hseq hKt hKb hb0 hps I Ix hI hIx h0 (fun x => { tmps := (qs x).foldl (fun t pv => t.setIfInBounds pv.1 pv.2) a.tmps, defers := [] }) hassign hbody hdone hstop

theorem Keeps.setCell {n0 lo hi : Nat} {W W1 : World} (h : Keeps n0 lo hi W W1) (p : Addr) (hn : n0 ≤ p.block) (hne : p.block < lo ∨ hi ≤ p.block) (v : Value) : Keeps n0 lo hi W (W1.setCell p v) :=
  ⟨h.below.setCell hn v, fun k a b => (Below.heap_setCell W1 p v k (by omega)).trans (h.kept k a b)⟩

/-- What has come when k rounds are over. -/
def upto {α : Type} (f : Nat → α) (k : Nat) : List α := (List.range k).map f
theorem upto_succ {α : Type} (f : Nat → α) (k : Nat) : upto f (k + 1) = upto f k ++ [f k] := by simp [upto, List.range_succ]
theorem upto_length {α : Type} (f : Nat → α) (k : Nat) : (upto f k).length = k := by simp [upto]
theorem upto_prefix {α : Type} (f : Nat → α) {k n : Nat} (h : k ≤ n) : upto f k <+: upto f n := by
  unfold upto
  obtain ⟨d, rfl⟩ : ∃ d, n = k + d := ⟨n - k, by omega⟩
  exact ⟨(List.range' k d).map f, by rw [← List.map_append]; congr 1; rw [List.range_eq_range', List.range_eq_range']; have := List.range'_append_1 (s := 0) (m := k) (n := d); simpa using this⟩
end Go.Proofs.Ytiemfklonhlnnaa

namespace Go.Proofs.Ytiemfklonhlnnaa
open Go.RowKit

theorem mixed' : Try.prog.follows .mixedOrders = true := by kernel_rfl
/-- A region that draws its order and only reads; the world under a name. -/
theorem still_lit {P : Program} {id : Nat} {Q : Exit → Act → World → Prop} {a : Act} {w : World} {l : List Oper} (hm : P.follows .mixedOrders = true) (hB : Region.lexB .any l.toArray = true)
    (h : wpStill P l.toArray w.drew (fun a' => Q .normal a' w.drew) l a) : (Code.region id l.toArray true).wp P Q a w := wp_region_still_lit hm hB h
theorem take_snoc (zs : List Int) (k : Nat) (h : k < zs.length) : zs.take (k + 1) = zs.take k ++ [zs.getD k 0] := by
  rw [List.take_succ_eq_append_getElem h]; simp [List.getD_eq_getElem?_getD, h]
theorem Rd.at {k : IntKind} {w w1 : World} {a : Option Addr} {zs : List Int} {n i : Nat} (h : Rd k w a zs) (hb : Below n w w1) (hn : w.heap.size ≤ n) (hi : i < zs.length) : ∃ b off, a = some ⟨b, off, Option.none⟩ ∧ w1.cell? ⟨b, off + i, Option.none⟩ = some (.int k (zs.getD i 0)) := by
  rcases h with h | ⟨b, off, ha, hlt, hc⟩
  · subst h; simp at hi
  · exact ⟨b, off, ha, (hb.cell (p := ⟨b, off + i, Option.none⟩) (Nat.lt_of_lt_of_le hlt hn)).trans (hc i hi)⟩

/-- Do numbers rise? -/
def risesB (zs : List Int) : Bool := (List.range (zs.length - 1)).all (fun i => decide (zs.getD i 0 < zs.getD (i + 1) 0))
theorem risesB_iff {zs : List Int} : risesB zs = true ↔ ∀ i, i + 1 < zs.length → zs.getD i 0 < zs.getD (i + 1) 0 := by
  unfold risesB
  rw [List.all_eq_true]
  constructor
  · intro h i hi
    have := h i (List.mem_range.2 (by omega))
    simpa using this
  · intro h i hi
    have := h i (by have := List.mem_range.1 hi; omega)
    simpa using this

end Go.Proofs.Ytiemfklonhlnnaa

namespace Go.Proofs.Ytiemfklonhlnnaa
open Go.RowKit

theorem rd_src {k : IntKind} {w : World} {b off : Nat} {zs : List Int} (hc : ∀ i, i < zs.length → w.cell? ⟨b, off + i, Option.none⟩ = some (.int k (zs.getD i 0))) : ∀ j u, (zs.map (Value.int k))[j]? = some u → w.cell? ((⟨b, off, Option.none⟩ : Addr).add j) = some u := by
  intro j u hj
  have hjn : j < zs.length := by
    have := (List.getElem?_eq_some_iff.1 hj).1
    simpa using this
  rw [Addr.add_lit, hc j hjn]
  have e : (zs.map (Value.int k))[j]? = some (Value.int k (zs.getD j 0)) := by simp [List.getD, List.getElem?_eq_getElem hjn]
  rw [e] at hj
  exact hj
theorem ints_one {k : IntKind} {zs : List Int} : ∀ u ∈ zs.map (Value.int k), u.oneCell' = true := by intro u hu; obtain ⟨x, _, rfl⟩ := List.mem_map.1 hu; rfl
theorem new_cells (w : World) (t : TypeId) (news : Array Value) : ∀ j u, news.toList[j]? = some u → (w.alloc (.cells news t)).cell? ((⟨w.heap.size, 0, Option.none⟩ : Addr).add j) = some u := by
  intro j u h
  rw [Addr.add_lit, Nat.zero_add, cell_of_row (w.alloc (.cells news t)) w.heap.size j news t (0, 0) (heap_alloc_new w _)]
  simpa using h

variable {P : Program} {w0 : World} {ops : Array Oper} {rest : List Oper} {o : Oper} {A : Act} {Q : Exit → Act → World → Prop} {k : IntKind}

/-- A copy of integers that can be read. -/
theorem wpList_append_copy (hgd : o.guard = none) (s x : Operand) (t e : TypeId)
    (ho : o.op = .call { callee := .builtin .append, args := #[s, x], argTypes := #[t, t] })
    (i : TypeInfo) (bytes : Nat) (ht : P.underlying t = some (.slice e)) (hi : P.info? e = some i) (hz : i.zero = some (.int k 0)) (hsize : i.size = 1) (hby : i.bytes = bytes)
    (ad : Option Addr) (cap : Nat) (zs : List Int) (hs : A.eval s = .slice (some ⟨w0.heap.size, 0, Option.none⟩) 0 0) (hx : A.eval x = .slice ad zs.length cap)
    (hr : Rd k w0 ad zs) (hn : ad = Option.none → cap = 0) (h63 : zs.length ≤ maxLen) (hb : zs.length * bytes ≤ 140737488355328)
    (h : ∀ v' w', w'.ownsRow w0.heap.size e 1 v' zs.length (zs.map (Value.int k)) → Below w0.heap.size w0 w' → wpList P ops Q rest (A.put o.dst v') w') :
    wpList P ops Q (o :: rest) A (w0.alloc (.cells #[] e)) := by
  have hmade : (w0.alloc (.cells #[] e)).ownsRow w0.heap.size e 1 (.slice (some ⟨w0.heap.size, 0, Option.none⟩) 0 0) 0 [] := World.ownsRow_made w0 #[] 0 (Nat.le_refl _) (Nat.zero_le _) rfl
  have hbl : Below w0.heap.size w0 (w0.alloc (.cells #[] e)) := (Below.refl _ w0).alloc (Nat.le_refl _) _
  cases ad with
  | none =>
    obtain rfl := hn rfl
    have hz0 : zs = [] := by
      rcases hr with h | ⟨b, off, h, _⟩
      · exact h
      · cases h
    subst hz0
    refine wpList_append_own_none hgd s x t ho w0.heap.size e i 1 ht hi _ 0 [] hs hmade hx ?_
    exact h _ _ hmade hbl
  | some a =>
    have hcells : ∀ j u, (zs.map (Value.int k))[j]? = some u → (w0.alloc (.cells #[] e)).cell? (a.add j) = some u := by
      intro j u hj
      rcases hr with h | ⟨b, off, h, hlt, hc⟩
      · subst h; simp at hj
      · cases h
        refine rd_src (fun i hi => ?_) j u hj
        exact hbl.cell (p := ⟨b, off + i, Option.none⟩) hlt ▸ hc i hi
    refine wpList_append_own _ hgd s x t ho w0.heap.size e i (.int k 0) 1 bytes ht hi hz hsize hby rfl (by decide) _ 0 [] hs hmade a zs.length cap (zs.map (Value.int k)) hx (by simp) hcells ints_one (by simpa using h63) (by simpa using hb) (by simp) ?_
    intro v' w' hown hgrow _
    refine h v' w' (by simpa using hown) ?_
    exact hbl.grown hgrow (by simp) (by intro k hk; simp [Value.ownBlock] at hk; omega)

/-- Values behind a row of the call's own. -/
theorem wpList_append_news {base : Nat} {e : TypeId} {v : Value} {n : Nat} {xs : List Value} (hown : w0.ownsRow base e 1 v n xs) (hbase : base ≤ w0.heap.size)
    (hgd : o.guard = none) (s x : Operand) (t : TypeId)
    (ho : o.op = .call { callee := .builtin .append, args := #[s, x], argTypes := #[t, t] })
    (i : TypeInfo) (z : Value) (bytes : Nat) (ht : P.underlying t = some (.slice e)) (hi : P.info? e = some i) (hz : i.zero = some z) (hsize : i.size = 1) (hby : i.bytes = bytes) (hzs : z.cells.size = 1)
    (news : Array Value) (c : Nat) (hs : A.eval s = v) (hx : A.eval x = .slice (some ⟨w0.heap.size, 0, Option.none⟩) news.size c) (h1 : ∀ u ∈ news.toList, u.oneCell' = true)
    (h63 : n + news.size ≤ maxLen) (hb : (n + news.size) * bytes ≤ 140737488355328)
    (h : ∀ v' w', w'.ownsRow base e 1 v' (n + news.size) (xs ++ news.toList) → Below base w0 w' → wpList P ops Q rest (A.put o.dst v') w') :
    wpList P ops Q (o :: rest) A (w0.alloc (.cells news e)) := by
  refine wpList_append_own _ hgd s x t ho base e i z 1 bytes ht hi hz hsize hby hzs (by decide) v n xs hs (hown.alloc _) ⟨w0.heap.size, 0, Option.none⟩ news.size c news.toList hx (by simp) (new_cells w0 e news) h1 h63 hb (Nat.le_trans hbase (by simp)) ?_
  intro v' w' hown' hgrow _
  exact h v' w' hown' (((Below.refl base w0).alloc hbase _).grown hgrow (Nat.le_trans hbase (by simp)) (fun k hk => (World.ownsRow.lt hown k hk).1))

/-- Integers that can be read, behind a row of the call's own. -/
theorem wpList_append_onto {base : Nat} {e : TypeId} {v : Value} {n : Nat} {xs : List Value} (hown : w0.ownsRow base e 1 v n xs) (hbase : base ≤ w0.heap.size)
    (hgd : o.guard = none) (s x : Operand) (t : TypeId)
    (ho : o.op = .call { callee := .builtin .append, args := #[s, x], argTypes := #[t, t] })
    (i : TypeInfo) (bytes : Nat) (ht : P.underlying t = some (.slice e)) (hi : P.info? e = some i) (hz : i.zero = some (.int k 0)) (hsize : i.size = 1) (hby : i.bytes = bytes)
    (ad : Option Addr) (cap : Nat) (zs : List Int) (hs : A.eval s = v) (hx : A.eval x = .slice ad zs.length cap)
    (hr : Rd k w0 ad zs) (hn : ad = Option.none → cap = 0) (h63 : n + zs.length ≤ maxLen) (hb : (n + zs.length) * bytes ≤ 140737488355328)
    (h : ∀ v' w', w'.ownsRow base e 1 v' (n + zs.length) (xs ++ zs.map (Value.int k)) → Below base w0 w' → wpList P ops Q rest (A.put o.dst v') w') :
    wpList P ops Q (o :: rest) A w0 := by
  cases ad with
  | none =>
    obtain rfl := hn rfl
    have hz0 : zs = [] := by
      rcases hr with h | ⟨b, off, h, _⟩
      · exact h
      · cases h
    subst hz0
    refine wpList_append_own_none hgd s x t ho base e i 1 ht hi v n xs hs hown hx ?_
    exact h _ _ (by simpa using hown) (Below.refl _ _)
  | some a =>
    have hcells : ∀ j u, (zs.map (Value.int k))[j]? = some u → w0.cell? (a.add j) = some u := by
      intro j u hj
      rcases hr with h | ⟨b, off, h, hlt, hc⟩
      · subst h; simp at hj
      · cases h
        exact rd_src hc j u hj
    refine wpList_append_own _ hgd s x t ho base e i (.int k 0) 1 bytes ht hi hz hsize hby rfl (by decide) v n xs hs hown a zs.length cap (zs.map (Value.int k)) hx (by simp) hcells ints_one h63 hb hbase ?_
    intro v' w' hown' hgrow _
    exact h v' w' hown' ((Below.refl base w0).grown hgrow hbase (fun k hk => (World.ownsRow.lt hown k hk).1))

/-- What a call has made and owns, as an argument. -/
theorem owns_arg {w : World} {base : Nat} {e : TypeId} {v : Value} {n : Nat} {zs : List Int} (h : w.ownsRow base e 1 v n (zs.map (Value.int k))) :
    ∃ a cap, v = .slice a zs.length cap ∧ n = zs.length ∧ Rd k w a zs ∧ zs.length ≤ cap ∧ (a = Option.none → cap = 0) ∧ cap ≤ maxLen := by
  obtain ⟨a, cap, rfl, hn, hr⟩ := Rd.of_owns h
  refine ⟨a, cap, rfl, hn, hr, ?_⟩
  rcases h.2 with ⟨h1, h2⟩ | ⟨g, c2, cur, h1, _, _, hc, hm, _⟩
  · simp only [Value.slice.injEq] at h1
    obtain ⟨rfl, _, rfl⟩ := h1
    exact ⟨by omega, fun _ => rfl, Nat.zero_le _⟩
  · simp only [Value.slice.injEq] at h1
    obtain ⟨rfl, _, rfl⟩ := h1
    exact ⟨by omega, (by intro hq; cases hq), hm⟩

end Go.Proofs.Ytiemfklonhlnnaa

namespace Go.Proofs.Ytiemfklonhlnnaa
open Go.RowKit

theorem owns_below {w w' : World} {base : Nat} {e : TypeId} {s : Nat} {v : Value} {n : Nat} {xs : List Value} (h : w.ownsRow base e s v n xs) (hb : Below w.heap.size w w') : w'.ownsRow base e s v n xs :=
  h.kept (row := Option.none) ⟨hb.os, hb.tape, hb.output, hb.size, fun i hi _ => hb.block i hi⟩ (by
    cases hv : v.ownBlock with
    | none => exact .inl rfl
    | some k => exact .inr (by simp))
theorem owns_apart {w w' : World} {b1 b2 : Nat} {e1 e2 : TypeId} {s1 s2 : Nat} {v1 v2 : Value} {n1 n2 : Nat} {xs1 xs2 : List Value} (h1 : w.ownsRow b1 e1 s1 v1 n1 xs1) (h2 : w'.ownsRow b2 e2 s2 v2 n2 xs2) (hb : w.heap.size ≤ b2) : v2.ownBlock = Option.none ∨ v2.ownBlock ≠ v1.ownBlock := by
  cases hv : v2.ownBlock with
  | none => exact .inl rfl
  | some k =>
    refine .inr fun h => ?_
    have a1 := h1.lt k h.symm
    have a2 := h2.lt k hv
    omega

def numsK (k : IntKind) (zs : List Int) : List Value := zs.map (Value.int k)
theorem numsK_length (k : IntKind) (zs : List Int) : (numsK k zs).length = zs.length := by unfold numsK; simp
theorem numsK_get {k : IntKind} {cs : List Int} {i : Nat} (h : i < cs.length) : (numsK k cs)[i]? = some (.int k (cs.getD i 0)) := by simp [numsK, List.getD_eq_getElem?_getD, h]
theorem numsK_set (k : IntKind) (cs : List Int) (i : Nat) (u : Int) : numsK k (cs.set i u) = (numsK k cs).set i (.int k u) := by unfold numsK; rw [List.map_set]
/-- What a loop that writes a slice over leaves. -/
def SpoiltK (k : IntKind) (e : TypeId) (w0 : World) (B : Nat) (a : Option Addr) (n c : Nat) (wr : World) : Prop :=
  ∃ cs : List Int, cs.length = n ∧ wr.ownsRow B e 1 (.slice a n c) n (numsK k cs) ∧ w0.grownBy wr (Value.slice a n c).ownBlock
theorem SpoiltK.start {k : IntKind} {e : TypeId} {w0 : World} {B : Nat} {a : Option Addr} {c : Nat} {cs : List Int} (h : w0.ownsRow B e 1 (.slice a cs.length c) cs.length (numsK k cs)) : SpoiltK k e w0 B a cs.length c w0 :=
  ⟨cs, rfl, h, World.grownBy.refl _ _⟩
end Go.Proofs.Ytiemfklonhlnnaa
