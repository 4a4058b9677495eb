/- Small lemmas for the ends of walks: no program in sight. -/
import Derived.WalkKit
import Derived.Lib.Hide
namespace Go.Proofs.YtnfjabohnjbgbaaDoor
open Go.RowKit

theorem ret_int {k : IntKind} {a b : Int} (h : a = b) : Ending.returned (.int k a) = .returned (.int k b) := by rw [h]
theorem ret_bool {a b : Bool} (h : a = b) : Ending.returned (.bool a) = .returned (.bool b) := by rw [h]
theorem ret_ii {k l : IntKind} {a b c d : Int} (h : a = b) (g : c = d) : Ending.returned (.tuple #[.int k a, .int l c]) = .returned (.tuple #[.int k b, .int l d]) := by rw [h, g]
/-- Two numbers that are a pair's. -/
theorem ret_pair {k l : IntKind} {a c : Int} {p : Int × Int} (h : p = (a, c)) : Ending.returned (.tuple #[.int k a, .int l c]) = .returned (.tuple #[.int k p.1, .int l p.2]) := by rw [h]

/-- Facts on all old cells and marks, behind a contract that only makes memory. -/
theorem bcell {W w1 : World} (hb : Below W.heap.size W w1) : (∀ b o, b < W.heap.size → w1.cell? ⟨b, o, none⟩ = W.cell? ⟨b, o, none⟩) ∧ (∀ b o, b < W.heap.size → w1.frozen? ⟨b, o, none⟩ = W.frozen? ⟨b, o, none⟩) :=
  ⟨fun b o h => hb.cell (p := ⟨b, o, none⟩) h, fun b o h => hb.frozen (p := ⟨b, o, none⟩) h⟩

/-- One step more. -/
theorem bstep {W0 w w' : World} (h : Below W0.heap.size W0 w) (h2 : Below w.heap.size w w') : Below W0.heap.size W0 w' := h.trans (h2.mono h.size)

/-- An int's bounds. -/
theorem bd64 {n : Int} (h : (Lit.int .i64 n).wf = true) : -9223372036854775808 ≤ n ∧ n ≤ 9223372036854775807 := by
  simp [Lit.wf, IntKind.min, IntKind.max, IntKind.signed, IntKind.bits] at h
  omega
end Go.Proofs.YtnfjabohnjbgbaaDoor
