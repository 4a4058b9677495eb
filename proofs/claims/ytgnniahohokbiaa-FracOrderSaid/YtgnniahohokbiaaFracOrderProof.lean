/- Proves that the law FracOrder returns true for every input and leaves its input as it was; no condition. -/
import Derived.Test.YtgnniahohokbiaaRows
import Derived.WalkKit
import Derived.ProofKit
import Derived.OpenShut
import Derived.ChangeOld
import Derived.Below
import Derived.Test.YtgnniahohokbiaaOpen
import Derived.Test.YtgnniahohokbiaaFracOrder
namespace Go.Proofs.Ytgnniahohokbiaa.fracOrder
open Go.ChangeShapes Go.WideShapes Go.ChangeAt Go.RowKit
set_option linter.unusedVariables false

theorem own : ownKnob Try.prog.godebug = none := by kernel_rfl
theorem laidOut : laidOutB Try.prog = true := by kernel_rfl

theorem cells28 : Try.prog.cellsOf 28 = 6 := by kernel_rfl
theorem cellsE28 : Try.prog.cellsOf 3 = 1 := by kernel_rfl

set_option maxRecDepth 100000 in
theorem lifted (os : Os) (started : os.Started) (H : Type) (enc : TypeId × Value → H) :
    ReturnsInHanded {} Try.checked os 4 .any (Rows.fracOrderSpec.pre6 enc Try.prog Try.f4 Rows.fracOrderRow.domain false) (Rows.fracOrderSpec.post enc Try.prog Try.f4 false true false false) := by
  refine returnsInHanded_of_change (C := Try.checked) own started (by kernel_rfl) Try.func4
    (ChangeSpec.witness6 (enc := enc) (C := Try.checked) false ⟨#[], #[.agg #[.int .i64 0, .int .i64 0, .int .i64 0, .int .i64 0, .int .i64 0, .int .i64 0]], []⟩ 8 (by kernel_rfl) (by kernel_rfl) (by kernel_rfl) (by kernel_rfl)) ?_
  intro W base args ds gs before hval0 hW hcnd _
  have hval : ∀ (j : Nat) t v, Try.f4.params[j]? = some t → args[j]? = some v → Value.okWide Try.prog W .any base t v := hval0
  have hW' := hW
  obtain ⟨p, q, hA0, hV, rfl, hfz, hnd⟩ := hW
  have hA : DataW.TrodAll enc Try.prog W 0 (fun _ => true) true Try.f4.params.toList args.toList ds p := hA0
  rw [Try.params4] at hA hval
  obtain ⟨v0, vs0, d0, ds0, p0, q0, hargs, rfl, rfl, h0, r0⟩ := trodAll_cons hA
  obtain ⟨rfl, rfl, rfl⟩ := trodAll_nil r0
  obtain rfl : args = #[v0] := by cases args; simp_all
  obtain ⟨rfl, rfl⟩ := trodVars_none hV
  have k0 := h0
  have lt0 : ∀ x ∈ p0, x.block < W.heap.size := by obtain ⟨m, hm⟩ := k0; exact DataW.trod_lt m _ _ _ hm
  obtain ⟨cs0, rfl, hsz0, hg0⟩ := Opn.open_int_array Try.underlying28 cells28 Try.underlying3 cellsE28 (hval 0 28 v0 rfl rfl) h0
  obtain ⟨z0_0, e0_0, w0_0⟩ := hg0 0 (by decide)
  obtain ⟨z0_1, e0_1, w0_1⟩ := hg0 1 (by decide)
  obtain ⟨z0_2, e0_2, w0_2⟩ := hg0 2 (by decide)
  obtain ⟨z0_3, e0_3, w0_3⟩ := hg0 3 (by decide)
  obtain ⟨z0_4, e0_4, w0_4⟩ := hg0 4 (by decide)
  obtain ⟨z0_5, e0_5, w0_5⟩ := hg0 5 (by decide)
  obtain rfl := Opn.arr6 hsz0 e0_0 e0_1 e0_2 e0_3 e0_4 e0_5
  clear hA0 hval0
  refine (Frac.fracOrderW z0_0 z0_1 z0_2 z0_3 z0_4 z0_5 w0_0 w0_1 w0_2 w0_3 w0_4 w0_5 W).mono fun e W' ⟨he, bel⟩ => ?_
  subst he
  exact ⟨_, rfl, _, _, _, [], _, [], hW', trodAll_mk1 (shut_bool Try.underlying4 _), (trodAll_cons_mk (Below.trod laidOut (by kernel_rfl) (of_decide_eq_true (by kernel_rfl)) k0 bel lt0) trodAll_mk0), rfl, bel.frame _, fun h => by cases h⟩

theorem over : Rows.fracOrderRow.holds Try.pinned (OpenSpec.ofChange Rows.fracOrderSpec) :=
  OpenClaim.holds_of_wide 4 Try.f4 rfl rfl rfl rfl rfl rfl rfl ⟨rfl, rfl, rfl, rfl, rfl⟩ rfl rfl rfl rfl rfl (by kernel_rfl) Try.func4 (by kernel_rfl)
    (of_decide_eq_true (by kernel_rfl)) (by unfold Func.isWrapper; first | (rw [if_pos (by decide +kernel)]; kernel_rfl) | (rw [if_neg (by decide +kernel)]; exact ⟨rfl, rfl⟩))
    (fun os started H enc _ => lifted os started H enc)

theorem proved : Rows.FracOrderSaid := over
#print axioms proved
end Go.Proofs.Ytgnniahohokbiaa.fracOrder
