/- Proves that the law SpanHalves returns true for every input and leaves its input as it was; no condition. -/
import Derived.Test.YthkhideonceibaaDoorRows
import Derived.Test.YthkhideonceibaaDoorTie
import Derived.Test.YthkhideonceibaaDoorCards
import Derived.WalkKit
import Derived.ProofKit
import Derived.OpenShut
import Derived.ChangeOld
import Derived.Below
import Derived.LaidMore
import Derived.Stop.Joined
import Derived.SevenTiedAt
import Derived.Lib.LaidTab
import Derived.Test.YthkhideonceibaaDoorLSpanHalves
namespace Go.Proofs.YthkhideonceibaaDoor.spanHalves
open Go.ChangeShapes Go.WideShapes Go.ChangeAt Go.RowKit
set_option linter.unusedVariables false

theorem own : ownKnob Tryd.prog.godebug = none := by kernel_rfl
theorem laidOut : laidOutB Tryd.prog = true := by kernel_rfl

theorem gTab : Tryd.prog.globalNamed "math/bits.deBruijn64tab" = some 0 := by kernel_rfl
theorem tTab : (Tryd.prog.globals[0]?).map (·.type) = some 107 := by kernel_rfl
/-- What the condition gives: the table. -/
theorem tab_of {W : World} (h : laidMetH Tryd.prog Rows.spanHalvesRow.laid W) : Occ.Tab W := by
  rw [MakeChecks.laidMetH_plain _ _ _ (by kernel_rfl)] at h
  have h2 : laidMet Tryd.prog (("math/bits.deBruijn64tab", Lib.tabData .u8 (Lib.deBruijn64tab.map (fun n : Nat => (n : Int)))) :: []) W := h
  have ht := Lib.tabIs_of_head gTab tTab Tryd.underlying107 Tryd.underlying5 (by kernel_rfl) (by kernel_rfl) h2
  have hc : ∀ j, j < Lib.deBruijn64tab.length → W.cell? ⟨0, j, none⟩ = some (.int .u8 ((Lib.deBruijn64tab.getD j 0 : Nat) : Int)) := fun j hj => by
    have := ht.cell gTab j (by rw [List.length_map]; exact hj)
    rw [this]
    simp [List.getD_eq_getElem?_getD, hj]
  refine ⟨fun j hj => hc j hj, ?_⟩
  have h0 := hc 0 (by decide)
  rcases Nat.eq_zero_or_pos W.heap.size with h0' | h0'
  · simp [World.cell?, h0'] at h0
  · exact h0'
/-- The door's own heap meets the condition. -/
theorem door_met (os : Os) (args : Array Value) : laidMetH Tryd.prog Rows.spanHalvesRow.laid ((World.doorLaid Tryd.prog 400 os).forCall (fun _ _ => 0) ⟨#[], args, []⟩).memory :=
  laidMetH_of_parts3 (fuel := 8) (laidMet_of_run' 8 (by kernel_rfl) (by kernel_rfl)) (by kernel_rfl) (by kernel_rfl)

theorem cells27 : Tryd.prog.cellsOf 27 = 6 := by kernel_rfl
theorem cell27_3 : Tryd.prog.cellsOf 3 = 1 := by kernel_rfl
theorem cell27_22 : Tryd.prog.cellsOf 22 = 1 := by kernel_rfl
theorem cell27_23 : Tryd.prog.cellsOf 23 = 1 := by kernel_rfl
theorem cell27_24 : Tryd.prog.cellsOf 24 = 1 := by kernel_rfl
theorem cell27_25 : Tryd.prog.cellsOf 25 = 1 := by kernel_rfl
theorem cell27_e2 : Tryd.prog.cellsOf 2 = 1 := by kernel_rfl
theorem cell27_e3 : Tryd.prog.cellsOf 3 = 1 := by kernel_rfl
theorem cell27_e25 : Tryd.prog.cellsOf 25 = 1 := by kernel_rfl
def fks27 : List Opn.FK := [.i .i64, .s .u64, .s .i64, .s .i64, .s .i64, .i .u64]
theorem fields27 : ∃ fs : Array Field, Tryd.prog.underlying 27 = some (.struct fs) ∧ ∀ (i : Nat) (k : Opn.FK), fks27[i]? = some k → ∃ f : Field, fs[i]? = some f ∧ f.offset = i ∧ Tryd.prog.cellsOf f.type = 1 ∧ k.Field Tryd.prog f.type := by
  refine ⟨_, Tryd.underlying27, fun i k hk => ?_⟩
  unfold fks27 at hk
  match i, hk with
  | 0, hk => cases hk; exact ⟨_, rfl, rfl, cell27_3, Tryd.underlying3⟩
  | 1, hk => cases hk; exact ⟨_, rfl, rfl, cell27_22, _, Tryd.underlying22, Tryd.underlying25, cell27_e25⟩
  | 2, hk => cases hk; exact ⟨_, rfl, rfl, cell27_23, _, Tryd.underlying23, Tryd.underlying2, cell27_e2⟩
  | 3, hk => cases hk; exact ⟨_, rfl, rfl, cell27_23, _, Tryd.underlying23, Tryd.underlying2, cell27_e2⟩
  | 4, hk => cases hk; exact ⟨_, rfl, rfl, cell27_24, _, Tryd.underlying24, Tryd.underlying3, cell27_e3⟩
  | 5, hk => cases hk; exact ⟨_, rfl, rfl, cell27_25, Tryd.underlying25⟩
  | m + 6, hk => simp at hk

set_option maxRecDepth 100000 in
theorem lifted (os : Os) (started : os.Started) (H : Type) (enc : TypeId × Value → H) :
    ReturnsInHanded {} Tryd.checked os 6 .any (fun w args => (Rows.spanHalvesSpec.pre enc Tryd.prog Tryd.f6 [] false w args ∧ laidMetH Tryd.prog Rows.spanHalvesRow.laid w) ∧ sizedMet enc Tryd.prog Tryd.f6 (OpenSpec.ofChange Rows.spanHalvesSpec) false w args) (Rows.spanHalvesSpec.post enc Tryd.prog Tryd.f6 false true false false) := by
  refine returnsInHanded_of_change_and (C := Tryd.checked) (X := fun w _ => laidMetH Tryd.prog Rows.spanHalvesRow.laid w) (fun _ _ _ hh h => h.of_heap hh) own started (by kernel_rfl) Tryd.func6
    (ChangeSpec.witness_shaped (enc := enc) (C := Tryd.checked) (os := os) (X := fun w _ => laidMetH Tryd.prog Rows.spanHalvesRow.laid w) false (World.doorLaid Tryd.prog 400 os) #[.agg #[.int .i64 0, .slice none 0 0, .slice none 0 0, .slice none 0 0, .slice none 0 0, .int .u64 0], .int .i64 0, .int .i64 0, .int .i64 0] 8 rfl (World.shaped_of_RefB (by kernel_rfl) (by kernel_rfl)) (by kernel_rfl) (by kernel_rfl) (by kernel_rfl) (door_met os _)) ?_
  intro W base args ds gs before hval0 hW _ _ hL _
  have hval : ∀ (j : Nat) t v, Tryd.f6.params[j]? = some t → args[j]? = some v → Value.okWide Tryd.prog W .any base t v := hval0
  have hW' := hW
  obtain ⟨p, q, hA0, hV, rfl, hfz, hnd⟩ := hW
  have hA : DataW.TrodAll enc Tryd.prog W 0 (fun _ => true) true Tryd.f6.params.toList args.toList ds p := hA0
  rw [Tryd.params6] at hA hval
  obtain ⟨v0, vs0, d0, ds0, p0, q0, hargs, rfl, rfl, h0, r0⟩ := trodAll_cons hA
  obtain ⟨v1, vs1, d1, ds1, p1, q1, rfl, rfl, rfl, h1, r1⟩ := trodAll_cons r0
  obtain ⟨v2, vs2, d2, ds2, p2, q2, rfl, rfl, rfl, h2, r2⟩ := trodAll_cons r1
  obtain ⟨v3, vs3, d3, ds3, p3, q3, rfl, rfl, rfl, h3, r3⟩ := trodAll_cons r2
  obtain ⟨rfl, rfl, rfl⟩ := trodAll_nil r3
  obtain rfl : args = #[v0, v1, v2, v3] := by cases args; simp_all
  obtain ⟨rfl, rfl⟩ := trodVars_none hV
  have k0 := h0
  have lt0 : ∀ x ∈ p0, x.block < W.heap.size := by obtain ⟨m, hm⟩ := k0; exact DataW.trod_lt m _ _ _ hm
  obtain ⟨fs0, hfs0, hfl0⟩ := fields27
  obtain ⟨cs0, rfl, hsz0, hg0⟩ := Opn.open_mix_struct (ks := fks27) hfs0 cells27 hfl0 (hval 0 27 v0 rfl rfl) h0
  obtain ⟨_, e0_0, z0_0, rfl, w0_0⟩ := hg0 0 (.i .i64) rfl
  obtain ⟨_, e0_1, a0_1, l0_1, c0_1, z0_1, rfl, w0_1⟩ := hg0 1 (.s .u64) rfl
  obtain ⟨_, e0_2, a0_2, l0_2, c0_2, z0_2, rfl, w0_2⟩ := hg0 2 (.s .i64) rfl
  obtain ⟨_, e0_3, a0_3, l0_3, c0_3, z0_3, rfl, w0_3⟩ := hg0 3 (.s .i64) rfl
  obtain ⟨_, e0_4, a0_4, l0_4, c0_4, z0_4, rfl, w0_4⟩ := hg0 4 (.s .i64) rfl
  obtain ⟨_, e0_5, z0_5, rfl, w0_5⟩ := hg0 5 (.i .u64) rfl
  obtain rfl := Opn.arr6 hsz0 e0_0 e0_1 e0_2 e0_3 e0_4 e0_5
  obtain ⟨a1, rfl, rfl, rfl, w1⟩ := open_int Tryd.underlying2 (hval 1 2 v1 rfl rfl) h1
  obtain ⟨a2, rfl, rfl, rfl, w2⟩ := open_int Tryd.underlying2 (hval 2 2 v2 rfl rfl) h2
  obtain ⟨a3, rfl, rfl, rfl, w3⟩ := open_int Tryd.underlying2 (hval 3 2 v3 rfl rfl) h3
  clear hA0 hval0
  refine (Span.spanHalves ⟨z0_0, a0_1, l0_1, c0_1, z0_1, a0_2, l0_2, c0_2, z0_2, a0_3, l0_3, c0_3, z0_3, a0_4, l0_4, c0_4, z0_4, z0_5⟩ a1 a2 a3 W ⟨w0_0, w0_1, w0_2, w0_3, w0_4, w0_5⟩ w1 w2 w3 (tab_of hL)).mono fun e W' ⟨he, bel⟩ => ?_
  subst he
  exact ⟨_, rfl, _, _, _, [], _, [], hW', trodAll_mk1 (shut_bool Tryd.underlying4 _), (trodAll_cons_mk (Below.trod laidOut (by kernel_rfl) (of_decide_eq_true (by kernel_rfl)) k0 bel lt0) (trodAll_cons_mk (shut_int Tryd.underlying2 w1) (trodAll_cons_mk (shut_int Tryd.underlying2 w2) (trodAll_cons_mk (shut_int Tryd.underlying2 w3) trodAll_mk0)))), rfl, bel.frame _, fun h => by cases h⟩

theorem over : Rows.spanHalvesRow.holds Tryd.pinned (OpenSpec.ofChange Rows.spanHalvesSpec) :=
  OpenClaim.holds_of_wide 6 Tryd.f6 rfl rfl rfl rfl rfl rfl rfl ⟨rfl, rfl, rfl, rfl, rfl⟩ rfl rfl rfl rfl rfl (by kernel_rfl) Tryd.func6 (by kernel_rfl)
    (of_decide_eq_true (by kernel_rfl)) (by unfold Func.isWrapper; first | (rw [if_pos (by decide +kernel)]; kernel_rfl) | (rw [if_neg (by decide +kernel)]; exact ⟨rfl, rfl⟩))
    (fun os started H enc _ => lifted os started H enc)

theorem proved : Rows.SpanHalvesCardSaid :=
  Claim7.holds_tied_plain_at .later [] [.data] true (true, "a8306b1cc33087b445f2fac311fca353e182ee4c9202670326c26a186e97b2d4") false
    over (fun _ h => by cases h) (by kernel_rfl) (fun _ h => by cases h) spanHalves_row_tie rfl ⟨rfl, rfl⟩ (by kernel_rfl) rfl
    (fun f fn hf hfn => by
      obtain rfl : f = 6 := Option.some.inj ((show Tryd.prog.funcNamed "shelfmark/shelfmarklaw12.SpanHalves" = some 6 by kernel_rfl).symm.trans hf) |>.symm
      obtain rfl : fn = Tryd.f6 := (Option.some.inj (Tryd.func6.symm.trans hfn)).symm
      exact ⟨by kernel_rfl, fun j t ht => by
        rw [Tryd.params6] at ht
        have hm : t ∈ ([27, 2, 2, 2] : List TypeId) := by simpa using Array.mem_of_getElem? ht
        have hall : (([27, 2, 2, 2] : List TypeId).all fun u => !Tryd.prog.wantsStandIn u) = true := by kernel_rfl
        exact (show Tryd.prog.wantsStandIn t = false by simpa using List.all_eq_true.1 hall t hm)⟩)
    (by kernel_rfl)
#print axioms proved
end Go.Proofs.YthkhideonceibaaDoor.spanHalves
