/- Proves that the law LayKeeps returns true for every input and leaves its input as it was; no condition. -/
import Derived.Test.YtfokbkkgokioeaaRows
import Derived.WalkKit
import Derived.ProofKit
import Derived.OpenShut
import Derived.ChangeOld
import Derived.Below
import Derived.Test.YtfokbkkgokioeaaLLayKeeps
namespace Go.Proofs.Ytfokbkkgokioeaa.layKeeps
open Go.ChangeShapes Go.WideShapes Go.ChangeAt Go.RowKit
set_option linter.unusedVariables false

theorem own : ownKnob Try.prog.godebug = none := by kernel_rfl
theorem laidOut : laidOutB Try.prog = true := by kernel_rfl

theorem cells27 : Try.prog.cellsOf 27 = 6 := by kernel_rfl
theorem cell27_3 : Try.prog.cellsOf 3 = 1 := by kernel_rfl
theorem cell27_22 : Try.prog.cellsOf 22 = 1 := by kernel_rfl
theorem cell27_23 : Try.prog.cellsOf 23 = 1 := by kernel_rfl
theorem cell27_24 : Try.prog.cellsOf 24 = 1 := by kernel_rfl
theorem cell27_25 : Try.prog.cellsOf 25 = 1 := by kernel_rfl
theorem cell27_e2 : Try.prog.cellsOf 2 = 1 := by kernel_rfl
theorem cell27_e3 : Try.prog.cellsOf 3 = 1 := by kernel_rfl
theorem cell27_e25 : Try.prog.cellsOf 25 = 1 := by kernel_rfl
def fks27 : List Opn.FK := [.i .i64, .s .u64, .s .i64, .s .i64, .s .i64, .i .u64]
theorem fields27 : ∃ fs : Array Field, Try.prog.underlying 27 = some (.struct fs) ∧ ∀ (i : Nat) (k : Opn.FK), fks27[i]? = some k → ∃ f : Field, fs[i]? = some f ∧ f.offset = i ∧ Try.prog.cellsOf f.type = 1 ∧ k.Field Try.prog f.type := by
  refine ⟨_, Try.underlying27, fun i k hk => ?_⟩
  unfold fks27 at hk
  match i, hk with
  | 0, hk => cases hk; exact ⟨_, rfl, rfl, cell27_3, Try.underlying3⟩
  | 1, hk => cases hk; exact ⟨_, rfl, rfl, cell27_22, _, Try.underlying22, Try.underlying25, cell27_e25⟩
  | 2, hk => cases hk; exact ⟨_, rfl, rfl, cell27_23, _, Try.underlying23, Try.underlying2, cell27_e2⟩
  | 3, hk => cases hk; exact ⟨_, rfl, rfl, cell27_23, _, Try.underlying23, Try.underlying2, cell27_e2⟩
  | 4, hk => cases hk; exact ⟨_, rfl, rfl, cell27_24, _, Try.underlying24, Try.underlying3, cell27_e3⟩
  | 5, hk => cases hk; exact ⟨_, rfl, rfl, cell27_25, Try.underlying25⟩
  | m + 6, hk => simp at hk

theorem cells40 : Try.prog.cellsOf 40 = 2 := by kernel_rfl
theorem cellsE40 : Try.prog.cellsOf 3 = 1 := by kernel_rfl

theorem cells42 : Try.prog.cellsOf 42 = 2 := by kernel_rfl
theorem cell42_2 : Try.prog.cellsOf 2 = 1 := by kernel_rfl
theorem fields42 : ∃ fs : Array Field, Try.prog.underlying 42 = some (.struct fs) ∧ ∀ (i : Nat) (k : IntKind), ([.i64, .i64] : List IntKind)[i]? = some k → ∃ f : Field, fs[i]? = some f ∧ f.offset = i ∧ Try.prog.cellsOf f.type = 1 ∧ Try.prog.underlying f.type = some (.int k) := by
  refine ⟨_, Try.underlying42, fun i k hk => ?_⟩
  match i, hk with
  | 0, hk => cases hk; exact ⟨_, rfl, rfl, cell42_2, Try.underlying2⟩
  | 1, hk => cases hk; exact ⟨_, rfl, rfl, cell42_2, Try.underlying2⟩
  | m + 2, hk => simp at hk

set_option maxRecDepth 100000 in
theorem lifted (os : Os) (started : os.Started) (H : Type) (enc : TypeId × Value → H) :
    ReturnsInHanded {} Try.checked os 5 .any (Rows.layKeepsSpec.pre6 enc Try.prog Try.f5 Rows.layKeepsRow.domain false) (Rows.layKeepsSpec.post enc Try.prog Try.f5 false true false false) := by
  refine returnsInHanded_of_change (C := Try.checked) own started (by kernel_rfl) Try.func5
    (ChangeSpec.witness6 (enc := enc) (C := Try.checked) false ⟨#[], #[.agg #[.int .i64 0, .slice none 0 0, .slice none 0 0, .slice none 0 0, .slice none 0 0, .int .u64 0], .agg #[.int .i64 0, .int .i64 0], .int .i64 0, .agg #[.int .i64 0, .int .i64 0]], []⟩ 8 (by kernel_rfl) (by kernel_rfl) (by kernel_rfl) (by kernel_rfl)) ?_
  intro W base args ds gs before hval0 hW hcnd _
  have hval : ∀ (j : Nat) t v, Try.f5.params[j]? = some t → args[j]? = some v → Value.okWide Try.prog W .any base t v := hval0
  have hW' := hW
  obtain ⟨p, q, hA0, hV, rfl, hfz, hnd⟩ := hW
  have hA : DataW.TrodAll enc Try.prog W 0 (fun _ => true) true Try.f5.params.toList args.toList ds p := hA0
  rw [Try.params5] at hA hval
  obtain ⟨v0, vs0, d0, ds0, p0, q0, hargs, rfl, rfl, h0, r0⟩ := trodAll_cons hA
  obtain ⟨v1, vs1, d1, ds1, p1, q1, rfl, rfl, rfl, h1, r1⟩ := trodAll_cons r0
  obtain ⟨v2, vs2, d2, ds2, p2, q2, rfl, rfl, rfl, h2, r2⟩ := trodAll_cons r1
  obtain ⟨v3, vs3, d3, ds3, p3, q3, rfl, rfl, rfl, h3, r3⟩ := trodAll_cons r2
  obtain ⟨rfl, rfl, rfl⟩ := trodAll_nil r3
  obtain rfl : args = #[v0, v1, v2, v3] := by cases args; simp_all
  obtain ⟨rfl, rfl⟩ := trodVars_none hV
  have k0 := h0
  have lt0 : ∀ x ∈ p0, x.block < W.heap.size := by obtain ⟨m, hm⟩ := k0; exact DataW.trod_lt m _ _ _ hm
  obtain ⟨fs0, hfs0, hfl0⟩ := fields27
  obtain ⟨cs0, rfl, hsz0, hg0⟩ := Opn.open_mix_struct (ks := fks27) hfs0 cells27 hfl0 (hval 0 27 v0 rfl rfl) h0
  obtain ⟨_, e0_0, z0_0, rfl, w0_0⟩ := hg0 0 (.i .i64) rfl
  obtain ⟨_, e0_1, a0_1, l0_1, c0_1, z0_1, rfl, w0_1⟩ := hg0 1 (.s .u64) rfl
  obtain ⟨_, e0_2, a0_2, l0_2, c0_2, z0_2, rfl, w0_2⟩ := hg0 2 (.s .i64) rfl
  obtain ⟨_, e0_3, a0_3, l0_3, c0_3, z0_3, rfl, w0_3⟩ := hg0 3 (.s .i64) rfl
  obtain ⟨_, e0_4, a0_4, l0_4, c0_4, z0_4, rfl, w0_4⟩ := hg0 4 (.s .i64) rfl
  obtain ⟨_, e0_5, z0_5, rfl, w0_5⟩ := hg0 5 (.i .u64) rfl
  obtain rfl := Opn.arr6 hsz0 e0_0 e0_1 e0_2 e0_3 e0_4 e0_5
  have k1 := h1
  have lt1 : ∀ x ∈ p1, x.block < W.heap.size := by obtain ⟨m, hm⟩ := k1; exact DataW.trod_lt m _ _ _ hm
  obtain ⟨cs1, rfl, hsz1, hg1⟩ := Opn.open_int_array Try.underlying40 cells40 Try.underlying3 cellsE40 (hval 1 40 v1 rfl rfl) h1
  obtain ⟨z1_0, e1_0, w1_0⟩ := hg1 0 (by decide)
  obtain ⟨z1_1, e1_1, w1_1⟩ := hg1 1 (by decide)
  obtain rfl := Opn.arr2 hsz1 e1_0 e1_1
  obtain ⟨a2, rfl, rfl, rfl, w2⟩ := open_int Try.underlying3 (hval 2 3 v2 rfl rfl) h2
  have k3 := h3
  have lt3 : ∀ x ∈ p3, x.block < W.heap.size := by obtain ⟨m, hm⟩ := k3; exact DataW.trod_lt m _ _ _ hm
  obtain ⟨fs3, hfs3, hfl3⟩ := fields42
  obtain ⟨cs3, rfl, hsz3, hg3⟩ := Opn.open_int_struct (ks := [.i64, .i64]) hfs3 cells42 hfl3 (hval 3 42 v3 rfl rfl) h3
  obtain ⟨z3_0, e3_0, w3_0⟩ := hg3 0 .i64 rfl
  obtain ⟨z3_1, e3_1, w3_1⟩ := hg3 1 .i64 rfl
  obtain rfl := Opn.arr2 hsz3 e3_0 e3_1
  clear hA0 hval0
  refine (Lay.layKeeps ⟨z0_0, a0_1, l0_1, c0_1, z0_1, a0_2, l0_2, c0_2, z0_2, a0_3, l0_3, c0_3, z0_3, a0_4, l0_4, c0_4, z0_4, z0_5⟩ z1_0 z1_1 a2 ⟨z3_0, z3_1⟩ W ⟨w0_0, w0_1, w0_2, w0_3, w0_4, w0_5⟩ w1_0 w1_1 w2 ⟨w3_0, w3_1⟩).mono fun e W' ⟨he, bel⟩ => ?_
  subst he
  exact ⟨_, rfl, _, _, _, [], _, [], hW', trodAll_mk1 (shut_bool Try.underlying4 _), (trodAll_cons_mk (Below.trod laidOut (by kernel_rfl) (of_decide_eq_true (by kernel_rfl)) k0 bel lt0) (trodAll_cons_mk (Below.trod laidOut (by kernel_rfl) (of_decide_eq_true (by kernel_rfl)) k1 bel lt1) (trodAll_cons_mk (shut_int Try.underlying3 w2) (trodAll_cons_mk (Below.trod laidOut (by kernel_rfl) (of_decide_eq_true (by kernel_rfl)) k3 bel lt3) trodAll_mk0)))), rfl, bel.frame _, fun h => by cases h⟩

theorem over : Rows.layKeepsRow.holds Try.pinned (OpenSpec.ofChange Rows.layKeepsSpec) :=
  OpenClaim.holds_of_wide 5 Try.f5 rfl rfl rfl rfl rfl rfl rfl ⟨rfl, rfl, rfl, rfl, rfl⟩ rfl rfl rfl rfl rfl (by kernel_rfl) Try.func5 (by kernel_rfl)
    (of_decide_eq_true (by kernel_rfl)) (by unfold Func.isWrapper; first | (rw [if_pos (by decide +kernel)]; kernel_rfl) | (rw [if_neg (by decide +kernel)]; exact ⟨rfl, rfl⟩))
    (fun os started H enc _ => lifted os started H enc)

theorem proved : Rows.LayKeepsSaid := over
#print axioms proved
end Go.Proofs.Ytfokbkkgokioeaa.layKeeps
