/- Proves that the law ConfShares returns true for every input and leaves its input as it was; no condition. -/
import Derived.Test.YthgeghdegpgijaaRows
import Derived.WalkKit
import Derived.ProofKit
import Derived.OpenShut
import Derived.ChangeOld
import Derived.Below
import Derived.Test.YthgeghdegpgijaaOpen
import Derived.Test.YthgeghdegpgijaaConfShares
namespace Go.Proofs.Ythgeghdegpgijaa.confShares
open Go.ChangeShapes Go.WideShapes Go.ChangeAt Go.RowKit
set_option linter.unusedVariables false

theorem own : ownKnob Try.prog.godebug = none := by kernel_rfl
theorem laidOut : laidOutB Try.prog = true := by kernel_rfl

theorem cells23 : Try.prog.cellsOf 23 = 9 := by kernel_rfl
theorem cell23_3 : Try.prog.cellsOf 3 = 1 := by kernel_rfl
theorem cell23_5 : Try.prog.cellsOf 5 = 1 := by kernel_rfl
theorem fields23 : ∃ fs : Array Field, Try.prog.underlying 23 = some (.struct fs) ∧ ∀ (i : Nat) (k : IntKind), ([.u8, .i64, .i64, .i64, .i64, .i64, .i64, .i64, .i64] : List IntKind)[i]? = some k → ∃ f : Field, fs[i]? = some f ∧ f.offset = i ∧ Try.prog.cellsOf f.type = 1 ∧ Try.prog.underlying f.type = some (.int k) := by
  refine ⟨_, Try.underlying23, fun i k hk => ?_⟩
  match i, hk with
  | 0, hk => cases hk; exact ⟨_, rfl, rfl, cell23_5, Try.underlying5⟩
  | 1, hk => cases hk; exact ⟨_, rfl, rfl, cell23_3, Try.underlying3⟩
  | 2, hk => cases hk; exact ⟨_, rfl, rfl, cell23_3, Try.underlying3⟩
  | 3, hk => cases hk; exact ⟨_, rfl, rfl, cell23_3, Try.underlying3⟩
  | 4, hk => cases hk; exact ⟨_, rfl, rfl, cell23_3, Try.underlying3⟩
  | 5, hk => cases hk; exact ⟨_, rfl, rfl, cell23_3, Try.underlying3⟩
  | 6, hk => cases hk; exact ⟨_, rfl, rfl, cell23_3, Try.underlying3⟩
  | 7, hk => cases hk; exact ⟨_, rfl, rfl, cell23_3, Try.underlying3⟩
  | 8, hk => cases hk; exact ⟨_, rfl, rfl, cell23_3, Try.underlying3⟩
  | m + 9, hk => simp at hk

theorem cells42 : Try.prog.cellsOf 42 = 2 := by kernel_rfl
theorem cellsE42 : Try.prog.cellsOf 3 = 1 := by kernel_rfl

set_option maxRecDepth 100000 in
theorem lifted (os : Os) (started : os.Started) (H : Type) (enc : TypeId × Value → H) :
    ReturnsInHanded {} Try.checked os 7 .any (Rows.confSharesSpec.pre6 enc Try.prog Try.f7 Rows.confSharesRow.domain false) (Rows.confSharesSpec.post enc Try.prog Try.f7 false true false false) := by
  refine returnsInHanded_of_change (C := Try.checked) own started (by kernel_rfl) Try.func7
    (ChangeSpec.witness6 (enc := enc) (C := Try.checked) false ⟨#[], #[.agg #[.int .u8 0, .int .i64 0, .int .i64 0, .int .i64 0, .int .i64 0, .int .i64 0, .int .i64 0, .int .i64 0, .int .i64 0], .int .i64 0, .agg #[.int .i64 0, .int .i64 0], .int .i64 0], []⟩ 8 (by kernel_rfl) (by kernel_rfl) (by kernel_rfl) (by kernel_rfl)) ?_
  intro W base args ds gs before hval0 hW hcnd _
  have hval : ∀ (j : Nat) t v, Try.f7.params[j]? = some t → args[j]? = some v → Value.okWide Try.prog W .any base t v := hval0
  have hW' := hW
  obtain ⟨p, q, hA0, hV, rfl, hfz, hnd⟩ := hW
  have hA : DataW.TrodAll enc Try.prog W 0 (fun _ => true) true Try.f7.params.toList args.toList ds p := hA0
  rw [Try.params7] at hA hval
  obtain ⟨v0, vs0, d0, ds0, p0, q0, hargs, rfl, rfl, h0, r0⟩ := trodAll_cons hA
  obtain ⟨v1, vs1, d1, ds1, p1, q1, rfl, rfl, rfl, h1, r1⟩ := trodAll_cons r0
  obtain ⟨v2, vs2, d2, ds2, p2, q2, rfl, rfl, rfl, h2, r2⟩ := trodAll_cons r1
  obtain ⟨v3, vs3, d3, ds3, p3, q3, rfl, rfl, rfl, h3, r3⟩ := trodAll_cons r2
  obtain ⟨rfl, rfl, rfl⟩ := trodAll_nil r3
  obtain rfl : args = #[v0, v1, v2, v3] := by cases args; simp_all
  obtain ⟨rfl, rfl⟩ := trodVars_none hV
  have k0 := h0
  have lt0 : ∀ x ∈ p0, x.block < W.heap.size := by obtain ⟨m, hm⟩ := k0; exact DataW.trod_lt m _ _ _ hm
  obtain ⟨fs0, hfs0, hfl0⟩ := fields23
  obtain ⟨cs0, rfl, hsz0, hg0⟩ := Opn.open_int_struct (ks := [.u8, .i64, .i64, .i64, .i64, .i64, .i64, .i64, .i64]) hfs0 cells23 hfl0 (hval 0 23 v0 rfl rfl) h0
  obtain ⟨z0_0, e0_0, w0_0⟩ := hg0 0 .u8 rfl
  obtain ⟨z0_1, e0_1, w0_1⟩ := hg0 1 .i64 rfl
  obtain ⟨z0_2, e0_2, w0_2⟩ := hg0 2 .i64 rfl
  obtain ⟨z0_3, e0_3, w0_3⟩ := hg0 3 .i64 rfl
  obtain ⟨z0_4, e0_4, w0_4⟩ := hg0 4 .i64 rfl
  obtain ⟨z0_5, e0_5, w0_5⟩ := hg0 5 .i64 rfl
  obtain ⟨z0_6, e0_6, w0_6⟩ := hg0 6 .i64 rfl
  obtain ⟨z0_7, e0_7, w0_7⟩ := hg0 7 .i64 rfl
  obtain ⟨z0_8, e0_8, w0_8⟩ := hg0 8 .i64 rfl
  obtain rfl := Opn.arr9 hsz0 e0_0 e0_1 e0_2 e0_3 e0_4 e0_5 e0_6 e0_7 e0_8
  obtain ⟨a1, rfl, rfl, rfl, w1⟩ := open_int Try.underlying3 (hval 1 3 v1 rfl rfl) h1
  have k2 := h2
  have lt2 : ∀ x ∈ p2, x.block < W.heap.size := by obtain ⟨m, hm⟩ := k2; exact DataW.trod_lt m _ _ _ hm
  obtain ⟨cs2, rfl, hsz2, hg2⟩ := Opn.open_int_array Try.underlying42 cells42 Try.underlying3 cellsE42 (hval 2 42 v2 rfl rfl) h2
  obtain ⟨z2_0, e2_0, w2_0⟩ := hg2 0 (by decide)
  obtain ⟨z2_1, e2_1, w2_1⟩ := hg2 1 (by decide)
  obtain rfl := Opn.arr2 hsz2 e2_0 e2_1
  obtain ⟨a3, rfl, rfl, rfl, w3⟩ := open_int Try.underlying3 (hval 3 3 v3 rfl rfl) h3
  clear hA0 hval0
  refine (Conf.confShares ⟨z0_0, z0_1, z0_2, z0_3, z0_4, z0_5, z0_6, z0_7, z0_8⟩ a1 z2_0 z2_1 a3 ⟨w0_0, w0_1, w0_2, w0_3, w0_4, w0_5, w0_6, w0_7, w0_8⟩ w1 w2_0 w2_1 w3 W).mono fun e W' ⟨he, bel⟩ => ?_
  subst he
  exact ⟨_, rfl, _, _, _, [], _, [], hW', trodAll_mk1 (shut_bool Try.underlying4 _), (trodAll_cons_mk (Below.trod laidOut (by kernel_rfl) (of_decide_eq_true (by kernel_rfl)) k0 bel lt0) (trodAll_cons_mk (shut_int Try.underlying3 w1) (trodAll_cons_mk (Below.trod laidOut (by kernel_rfl) (of_decide_eq_true (by kernel_rfl)) k2 bel lt2) (trodAll_cons_mk (shut_int Try.underlying3 w3) trodAll_mk0)))), rfl, bel.frame _, fun h => by cases h⟩

theorem over : Rows.confSharesRow.holds Try.pinned (OpenSpec.ofChange Rows.confSharesSpec) :=
  OpenClaim.holds_of_wide 7 Try.f7 rfl rfl rfl rfl rfl rfl rfl ⟨rfl, rfl, rfl, rfl, rfl⟩ rfl rfl rfl rfl rfl (by kernel_rfl) Try.func7 (by kernel_rfl)
    (of_decide_eq_true (by kernel_rfl)) (by unfold Func.isWrapper; first | (rw [if_pos (by decide +kernel)]; kernel_rfl) | (rw [if_neg (by decide +kernel)]; exact ⟨rfl, rfl⟩))
    (fun os started H enc _ => lifted os started H enc)

theorem proved : Rows.ConfSharesSaid := over
#print axioms proved
end Go.Proofs.Ythgeghdegpgijaa.confShares
