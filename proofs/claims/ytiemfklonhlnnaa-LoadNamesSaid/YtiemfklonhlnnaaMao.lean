/- As text Mix, slicing among the reads. A region that draws its order: what reads is taken first, as long as what it reads stands; the rest comes in its forced order. No program in sight. Operations of a region in whatever order, some without a place for their value. No program in sight. The maps of chapter 13's examples, in plain Lean: no program in sight. The chapter's maps: what stands of them. -/
import Derived.Test.YtiemfklonhlnnaaMan
import Derived.OrdersHeld
import Derived.StillTail
import Derived.Deep.Quiet
import Derived.BigQuiet
set_option linter.unusedSimpArgs false
set_option linter.unusedVariables false
namespace Go.Proofs.Ytiemfklonhlnnaa.Mix2
open Go

def pureKind (o : Oper) : Bool := match o.op with
  | .move _ | .assign _ | .pick _ _ _ | .load _ _ | .binOp _ _ _ _ _ | .unOp _ _ _ | .fieldAddr _ _ _ | .field _ _ _ | .indexAddr _ _ _ | .index _ _ _ | .extract _ _ | .convert _ _ _ | .build _ _ | .nilCheck _ | .slice _ _ _ _ _ => true
  | _ => false

theorem then_value {α : Type} {r : Result α} {f : α → Value} {n : Next} {w' : World} (h : (Result.andThen r fun a w' => Result.ok (Next.value (f a)) w') = .ok n w') : ∃ u, n = .value u := by
  cases r with
  | ok v w => simp only [Result.andThen, Result.ok.injEq] at h; exact ⟨_, h.1.symm⟩
  | halt x w => simp only [Result.andThen] at h; cases h
theorem then_then {α : Type} {r : Result α} {g : α → World → Result Value} {n : Next} {w' : World} (h : (Result.andThen r fun a w => Result.andThen (g a w) fun b w' => Result.ok (Next.value b) w') = .ok n w') : ∃ u, n = .value u := by
  cases r with
  | ok v w => simp only [Result.andThen] at h; exact then_value (f := id) h
  | halt x w => simp only [Result.andThen] at h; cases h

theorem no_nil {P : Program} {w w' : World} {n : Next} (hr : (runtimePanic (α := Next) RuntimeError.nilDeref).run P w = .ok n w') : False := by
  simp [runtimePanic, goPanic, go_sem] at hr
theorem ahead_value {w' : World} {n : Next} {r : Result (Option Bool)} {v : Value} {X : World → Result Next} (hX : ∀ w n w', X w ≠ .ok n w')
    (hr : (r.andThen fun a w => if a = some false then Result.ok (Next.value v) w else X w) = .ok n w') : ∃ u, n = .value u := by
  cases r with
  | halt x w => simp only [Result.andThen] at hr; cases hr
  | ok a w1 =>
    simp only [Result.andThen] at hr
    split at hr
    · cases hr; exact ⟨_, rfl⟩
    · exact absurd hr (hX _ _ _)
theorem nil_value {P : Program} {ρ : Operand → Value} {x : Operand} {t : Option Tmp} {ty : TypeId} {ps : String} {af : Array Edge} {gd : Option (Nat × Bool)} {w w' : World} {n : Next}
    (hr : (execOp ρ ⟨t, .nilCheck x, ty, ps, af, gd⟩).run P w = .ok n w') : ∃ u, n = .value u := by
  simp only [execOp] at hr
  generalize ρ x = v at hr
  cases v <;> first
    | exact (no_nil hr).elim
    | (simp at hr; exact ⟨_, hr.1.symm⟩)
    | skip
  case pointer a =>
    cases a
    · exact (no_nil hr).elim
    · simp at hr; exact ⟨_, hr.1.symm⟩
  case func f first cap =>
    cases f <;> first
      | (simp at hr; exact ⟨_, hr.1.symm⟩)
      | skip
    case method name =>
      simp only [] at hr
      split at hr
      · exact (no_nil hr).elim
      · simp at hr
        exact ahead_value (fun w n w' h => by simp [unsupported, go_sem, Result.andThen] at h) hr
      · simp at hr; exact ⟨_, hr.1.symm⟩
theorem pure_value {P : Program} {ρ : Operand → Value} {o : Oper} (h : pureKind o = true) {w w' : World} {n : Next} (hr : (execOp ρ o).run P w = .ok n w') : ∃ u, n = .value u := by
  unfold pureKind at h
  unfold execOp at hr
  revert h hr
  cases o.op <;> intro h hr <;> first
    | (cases h; done)
    | exact nil_value (t := Option.none) (ty := 0) (ps := "") (af := #[]) (gd := Option.none) hr
    | (simp only [] at hr; simp at hr; exact then_value (f := id) hr)
    | (simp only [] at hr; simp at hr; exact then_value hr)
    | (simp only [] at hr; simp at hr; exact then_then hr)
    | (simp at hr; exact ⟨_, hr.1.symm⟩)
    | (simp only [] at hr; split at hr <;> simp at hr <;> first | exact ⟨_, hr.1.symm⟩ | skip)
    | (simp only [] at hr; simp at hr; trace_state; skip)

section
variable {P : Program} {ops : Array Oper} {Q : Exit → Act → World → Prop} {md : Region.Mode} {S : World → Prop} {C : Nat → Bool}

/-- A store that may have been made. -/
def maySet (w : World) (q : Addr) : Option Value → World
  | Option.none => w
  | some u => w.setCell q u
theorem maySet_cell {w : World} {q b : Addr} {v : Value} (h : w.cell? b = some v) (hq : q ≠ b) : ∀ o, (maySet w q o).cell? b = some v
  | Option.none => h
  | some u => (World.cell?_setCell_other w q b u hq).trans h
theorem maySet_frozen {w : World} {q b : Addr} {f : Bool} (h : w.frozen? b = f) : ∀ o, (maySet w q o).frozen? b = f
  | Option.none => h
  | some u => by unfold maySet; rw [World.frozen?_setCell]; exact h
/-- What has come up has come behind what it waits for. -/
structure Cl (md : Region.Mode) (ops : Array Oper) (listed : Array Bool) : Prop where
  size : listed.size = ops.size
  closed : ∀ j oj, ops[j]? = some oj → listed.getD j false = true → ∀ e ∈ oj.after, Region.binds md e = true → listed.getD e.on false = true

theorem Cl.set {i : Nat} {listed : Array Bool} (inv : Cl md ops listed) (hi : i ∈ Region.ready md ops listed) : Cl md ops (listed.setIfInBounds i true) := by
  obtain ⟨_, oi, hoi, hall⟩ := mem_ready.1 hi
  refine ⟨by simp [inv.size], fun j oj hj hl e he hb => ?_⟩
  by_cases hij : i = j
  · subst hij
    have : oj = oi := Option.some.inj (hj.symm.trans hoi)
    subst this
    exact getD_set_true (hall e he hb)
  · rw [getD_set_ne false hij] at hl
    exact getD_set_true (inv.closed j oj hj hl e he hb)

/-- Does c wait for i, by way of others? -/
def depB (md : Region.Mode) (ops : Array Oper) : Nat → Nat → Nat → Bool
  | 0, _, _ => false
  | f + 1, c, i => (List.range ops.size).any fun j => Region.waitsFor md ops c j && (j == i || depB md ops f j i)

theorem dep_listed : ∀ (f c i : Nat), depB md ops f c i = true → ∀ listed, Cl md ops listed → (c ∈ Region.ready md ops listed ∨ listed.getD c false = true) → listed.getD i false = true
  | 0, _, _, h, _, _, _ => by cases h
  | f + 1, c, i, h, listed, hcl, hc => by
    unfold depB at h
    obtain ⟨j, _, hj⟩ := List.any_eq_true.1 h
    simp only [Bool.and_eq_true, Bool.or_eq_true, beq_iff_eq] at hj
    obtain ⟨oc, hoc, e, he, hb, hon⟩ := Region.waitsFor_spec hj.1
    have hlj : listed.getD j false = true := by
      rw [← hon]
      rcases hc with hc | hc
      · obtain ⟨_, oc', hoc', hall⟩ := mem_ready.1 hc
        have : oc = oc' := Option.some.inj (hoc.symm.trans hoc')
        subst this
        exact hall e he hb
      · exact hcl.closed c oc hoc hc e he hb
    rcases hj.2 with h2 | h2
    · rw [← h2]; exact hlj
    · exact dep_listed f j i h2 listed hcl (.inr hlj)

/-- One of C has come up. -/
def Gone (C : Nat → Bool) (listed : Array Bool) : Prop := ∃ c, C c = true ∧ listed.getD c false = true
theorem Gone.unset {i : Nat} {listed : Array Bool} (h : Gone C (listed.setIfInBounds i true)) (hi : C i = false) : Gone C listed := by
  obtain ⟨c, h1, h2⟩ := h
  have hne : i ≠ c := by rintro rfl; rw [hi] at h1; cases h1
  rw [getD_set_ne false hne] at h2
  exact ⟨c, h1, h2⟩
theorem getD_set_self {j : Nat} {listed : Array Bool} (hj : j ∈ Region.ready md ops listed) (hcl : Cl md ops listed) : (listed.setIfInBounds j true).getD j false = true := by
  obtain ⟨_, o, ho, _⟩ := mem_ready.1 hj
  have : j < listed.size := by rw [hcl.size]; exact (Array.getElem?_eq_some_iff.1 ho).1
  simp [this]
/-- Whatever order is picked; S holds behind each operation that comes ahead of those of C. -/
def wpAnyM (P : Program) (md : Region.Mode) (ops : Array Oper) (Q : Exit → Act → World → Prop) (S : World → Prop) (C : Nat → Bool) : Nat → Array Bool → Act → World → Prop
  | 0, listed, a, w => Region.ready md ops listed = [] ∧ Q .normal a w
  | fuel + 1, listed, a, w =>
    (Region.ready md ops listed = [] → Q .normal a w) ∧
    ∀ i ∈ Region.ready md ops listed, wpOp P ops Q i (fun a' w' => (Gone C listed ∨ C i = true ∨ S w') ∧ wpAnyM P md ops Q S C fuel (listed.setIfInBounds i true) a' w') a w

theorem wpAny_of_M : ∀ (fuel : Nat) (listed : Array Bool) (a : Act) (w : World), wpAnyM P md ops Q S C fuel listed a w → wpAny P md ops Q fuel listed a w
  | 0, _, _, _, h => h
  | fuel + 1, _, _, _, h => ⟨h.1, fun i hi => wpOp_mono (fun a' w' h' => wpAny_of_M fuel _ a' w' h'.2) (h.2 i hi)⟩

theorem wpAnyM_first {i : Nat} {oi : Oper} {v : Value} (hi : ops[i]? = some oi) (hsel : ∀ (j : Nat) (o : Oper) cs b, ops[j]? = some o → o.op ≠ .select cs b)
    (hQ : ∀ c a w, Q (.panic c) (a.put oi.dst v) w → Q (.panic c) a w) (hic : C i = false)
    (hdep : ∀ listed, Cl md ops listed → (∃ c, C c = true ∧ (c ∈ Region.ready md ops listed ∨ listed.getD c false = true)) → listed.getD i false = true) :
    ∀ (fuel : Nat) (listed : Array Bool) (a : Act) (w : World), Cl md ops listed →
      (∀ j oj, ops[j]? = some oj → j ≠ i → listed.getD j true = false → (∀ e ∈ oj.after, Region.binds md e = true → e.on ≠ i) → oi.apart ops oj = true) →
      i ∈ Region.ready md ops listed → YieldsIf P ops S oi v a → S w →
      wpAnyM P md ops Q S C fuel (listed.setIfInBounds i true) (a.put oi.dst v) w → wpAnyM P md ops Q S C (fuel + 1) listed a w := by
  intro fuel
  induction fuel with
  | zero =>
    intro listed a w _ _ hr hy hS H
    refine ⟨fun h => (by rw [h] at hr; cases hr), fun j hj => ?_⟩
    by_cases hji : j = i
    · subst hji; exact hy.wpOp hi hS ⟨.inr (.inr hS), H⟩
    · have := ready_mono hj hji
      rw [H.1] at this
      cases this
  | succ fuel ih =>
    intro listed a w hcl hfree hr hy hS H
    have hun := getD_both (mem_ready.1 hr).1
    refine ⟨fun h => (by rw [h] at hr; cases hr), fun j hj => ?_⟩
    by_cases hji : j = i
    · subst hji; exact hy.wpOp hi hS ⟨.inr (.inr hS), H⟩
    · have h1 := H.2 j (ready_mono hj hji)
      obtain ⟨hjun, oj, hoj, hall⟩ := mem_ready.1 hj
      have hnot : ∀ e ∈ oj.after, Region.binds md e = true → e.on ≠ i := fun e he hb heq => by
        have h1 := hall e he hb
        rw [heq, hun] at h1
        cases h1
      have h2 := wpOp_putIf hoj (hfree j oj hoj hji hjun hnot) (fun cs b => hsel i oi cs b hi) (fun cs b => hsel j oj cs b hoj) hQ hy h1
      have hfree' : ∀ k ok, ops[k]? = some ok → k ≠ i → (listed.setIfInBounds j true).getD k true = false →
          (∀ e ∈ ok.after, Region.binds md e = true → e.on ≠ i) → oi.apart ops ok = true := fun k ok hk hki hun hno => by
        refine hfree k ok hk hki ?_ hno
        by_cases hjk : j = k
        · subst hjk; exact hjun
        · rw [getD_set_ne true hjk] at hun; exact hun
      refine wpOp_mono (fun a' w' h3 => ?_) h2
      have hSw : S w' := by
        rcases h3.2.1 with h | h | h
        · obtain ⟨c, h1, h2⟩ := h.unset hic
          have := hdep listed hcl ⟨c, h1, .inr h2⟩
          rw [hun] at this; cases this
        · have := hdep listed hcl ⟨j, h, .inl hj⟩
          rw [hun] at this; cases this
        · exact h
      refine ⟨.inr (.inr hSw), ih (listed.setIfInBounds j true) a' w' (hcl.set hj) hfree' (ready_mono hr (Ne.symm hji)) h3.1 hSw ?_⟩
      rw [Array.setIfInBounds_comm _ _ hji]
      exact h3.2.2

/-- .. that yields its value in whatever world. -/
theorem wpAnyM_free {i : Nat} {oi : Oper} {v : Value} (hi : ops[i]? = some oi) (hsel : ∀ (j : Nat) (o : Oper) cs b, ops[j]? = some o → o.op ≠ .select cs b)
    (hQ : ∀ c a w, Q (.panic c) (a.put oi.dst v) w → Q (.panic c) a w) (hic : C i = false) :
    ∀ (fuel : Nat) (listed : Array Bool) (a : Act) (w : World), Cl md ops listed →
      (∀ j oj, ops[j]? = some oj → j ≠ i → listed.getD j true = false → (∀ e ∈ oj.after, Region.binds md e = true → e.on ≠ i) → oi.apart ops oj = true) →
      i ∈ Region.ready md ops listed → YieldsIf P ops (fun _ => True) oi v a → (Gone C listed ∨ S w) →
      wpAnyM P md ops Q S C fuel (listed.setIfInBounds i true) (a.put oi.dst v) w → wpAnyM P md ops Q S C (fuel + 1) listed a w := by
  intro fuel
  induction fuel with
  | zero =>
    intro listed a w _ _ hr hy hS H
    refine ⟨fun h => (by rw [h] at hr; cases hr), fun j hj => ?_⟩
    by_cases hji : j = i
    · subst hji; exact hy.wpOp hi trivial ⟨hS.elim .inl fun h => .inr (.inr h), H⟩
    · have := ready_mono hj hji
      rw [H.1] at this
      cases this
  | succ fuel ih =>
    intro listed a w hcs hfree hr hy hS H
    have hun := getD_both (mem_ready.1 hr).1
    refine ⟨fun h => (by rw [h] at hr; cases hr), fun j hj => ?_⟩
    by_cases hji : j = i
    · subst hji; exact hy.wpOp hi trivial ⟨hS.elim .inl fun h => .inr (.inr h), H⟩
    · have h1 := H.2 j (ready_mono hj hji)
      obtain ⟨hjun, oj, hoj, hall⟩ := mem_ready.1 hj
      have hnot : ∀ e ∈ oj.after, Region.binds md e = true → e.on ≠ i := fun e he hb heq => by
        have h1 := hall e he hb
        rw [heq, hun] at h1
        cases h1
      have h2 := wpOp_putIf hoj (hfree j oj hoj hji hjun hnot) (fun cs b => hsel i oi cs b hi) (fun cs b => hsel j oj cs b hoj) hQ hy h1
      have hfree' : ∀ k ok, ops[k]? = some ok → k ≠ i → (listed.setIfInBounds j true).getD k true = false →
          (∀ e ∈ ok.after, Region.binds md e = true → e.on ≠ i) → oi.apart ops ok = true := fun k ok hk hki hun hno => by
        refine hfree k ok hk hki ?_ hno
        by_cases hjk : j = k
        · subst hjk; exact hjun
        · rw [getD_set_ne true hjk] at hun; exact hun
      refine wpOp_mono (fun a' w' h3 => ?_) h2
      have hd : Gone C listed ∨ C j = true ∨ S w' := h3.2.1.imp (fun h => h.unset hic) id
      refine ⟨hd, ih (listed.setIfInBounds j true) a' w' (hcs.set hj) hfree' (ready_mono hr (Ne.symm hji)) h3.1 ?_ ?_⟩
      · rcases hd with ⟨c, h1, h2⟩ | h | h
        · exact .inl ⟨c, h1, getD_set_true h2⟩
        · exact .inl ⟨j, h, getD_set_self hj hcs⟩
        · exact .inr h
      · rw [Array.setIfInBounds_comm _ _ hji]
        exact h3.2.2

theorem wpAnyM_one {i fuel : Nat} {listed : Array Bool} {a : Act} {w : World} (hr : Region.ready md ops listed = [i])
    (h : wpOp P ops Q i (fun a' w' => (Gone C listed ∨ C i = true ∨ S w') ∧ wpAnyM P md ops Q S C fuel (listed.setIfInBounds i true) a' w') a w) : wpAnyM P md ops Q S C (fuel + 1) listed a w := by
  refine ⟨fun h0 => (by rw [hr] at h0; cases h0), fun j hj => ?_⟩
  rw [hr] at hj
  have : j = i := by simpa using hj
  subst this
  exact h

/-- Those of a list that a row of signs names. -/
def maskL {α : Type} : List Bool → List α → List α
  | true :: m, x :: l => x :: maskL m l
  | false :: m, _ :: l => maskL m l
  | _, _ => []

def pureAt (ops : Array Oper) (k : Nat) : Bool := match ops[k]? with
  | some o => pureKind o
  | none => false

/-- May those that the signs name be taken first, one behind the other? -/
def takeB (md : Region.Mode) (ops : Array Oper) (cs : List Nat) (dep : Bool) : List Bool → Nat → Array Bool → Option (Array Bool)
  | [], _, listed => some listed
  | false :: m, k, listed => takeB md ops cs dep m (k + 1) listed
  | true :: m, k, listed =>
    if (Region.ready md ops listed).contains k && Region.free md ops listed k && pureAt ops k && !cs.contains k && (!dep || cs.all (fun c => depB md ops ops.size c k)) then takeB md ops cs dep m (k + 1) (listed.setIfInBounds k true) else none

theorem yields_of_quiet {S : World → Prop} {o : Oper} {a : Act} {K : Act → Prop} (hp : pureKind o = true) (hw : Region.wanted o (yielded ops a.tmps) = true) (h : o.quiet P a S K) : ∃ v, YieldsIf P ops S o v a ∧ K (a.put o.dst v) := by
  obtain ⟨v, h1, h2⟩ := h
  refine ⟨v, .inl ⟨hw, fun w hS => ?_⟩, h2⟩
  have h3 := h1 w hS
  unfold Oper.quietAt at h3
  generalize hr : (execOp a.eval o).run P w = r at *
  cases r with
  | ok n w' =>
    obtain ⟨u, rfl⟩ := pure_value hp hr
    simp only [Oper.quietUpon] at h3
    rw [h3.1, h3.2]
  | halt x w' => simp only [Oper.quietUpon] at h3

theorem hQ_all {d : Option Tmp} {v : Value} (hQ : ∀ c a (d : Tmp) v w, Q (.panic c) (Act.put a (some d) v) w → Q (.panic c) a w) : ∀ c a w, Q (.panic c) (Act.put a d v) w → Q (.panic c) a w := fun c a w h => by
  cases d with
  | none => exact h
  | some d => exact hQ c a d v w h
theorem take_dep {cs : List Nat} (hsel : Region.noSelect ops = true) (hQ : ∀ c a (d : Tmp) v w, Q (.panic c) (Act.put a (some d) v) w → Q (.panic c) a w) {fuel : Nat} {Lq : Act → Prop} {w : World} (hS : S w) :
    ∀ (m : List Bool) (l : List Oper) (k : Nat) (listed l2 : Array Bool) (a : Act), (∀ j, l[j]? = ops[k + j]?) → takeB md ops cs true m k listed = some l2 → Cl md ops listed →
    wpQuiet P ops S Lq (maskL m l) a → (∀ a', Cl md ops l2 → Lq a' → wpAnyM P md ops Q S (fun i => cs.contains i) fuel l2 a' w) → wpAnyM P md ops Q S (fun i => cs.contains i) (fuel + m.count true) listed a w
  | [], l, k, listed, l2, a, _, hB, hcl, h, hL => by
    simp only [takeB, Option.some.injEq] at hB
    subst hB
    cases l <;> exact hL a hcl h
  | false :: m, l, k, listed, l2, a, hl, hB, hcl, h, hL => by
    simp only [takeB] at hB
    cases l with
    | nil =>
      have := take_dep hsel hQ hS m [] (k + 1) listed l2 a (fun j => by have := hl (j + 1); simpa [Nat.add_assoc, Nat.add_comm 1 j] using this) hB hcl (by cases m with | nil => exact h | cons b m => cases b <;> exact h) hL
      simpa using this
    | cons o l =>
      have := take_dep hsel hQ hS m l (k + 1) listed l2 a (fun j => by have := hl (j + 1); simpa [Nat.add_assoc, Nat.add_comm 1 j] using this) hB hcl h hL
      simpa using this
  | true :: m, l, k, listed, l2, a, hl, hB, hcl, h, hL => by
    simp only [takeB] at hB
    split at hB
    · rename_i hc
      simp only [Bool.and_eq_true, Bool.not_eq_true', Bool.or_eq_true, Bool.not_true, Bool.false_eq_true, false_or] at hc
      obtain ⟨⟨⟨⟨hr, hf⟩, hp⟩, hne⟩, hd⟩ := hc
      cases l with
      | nil =>
        have h0 : ops[k]? = none := by simpa using (hl 0).symm
        simp [pureAt, h0] at hp
      | cons o l =>
        have h0 : ops[k]? = some o := by simpa using (hl 0).symm
        have hp' : pureKind o = true := by simpa [pureAt, h0] using hp
        have hr' : k ∈ Region.ready md ops listed := by simpa using hr
        have hl' : ∀ j, l[j]? = ops[k + 1 + j]? := fun j => by have := hl (j + 1); simpa [Nat.add_assoc, Nat.add_comm 1 j] using this
        have hstep : ∃ v, YieldsIf P ops S o v a ∧ wpQuiet P ops S Lq (maskL m l) (a.put o.dst v) := by
          have h' : wpQuiet P ops S Lq (o :: maskL m l) a := h
          simp only [wpQuiet] at h'
          split at h'
          · rename_i hw; exact yields_of_quiet hp' hw h'
          · rename_i hw; exact ⟨undef, .inr ⟨by simpa using hw, rfl⟩, h'⟩
        obtain ⟨v, hy, hK⟩ := hstep
        have := wpAnyM_first (C := fun i => cs.contains i) h0 (Region.noSelect_spec hsel) (hQ_all hQ) hne (fun listed hcl ⟨c, h1, h2⟩ => dep_listed _ _ _ (List.all_eq_true.1 hd c (by simpa using h1)) listed hcl h2) (fuel + m.count true) listed a w hcl (Region.free_spec h0 hf) hr' hy hS
          (take_dep hsel hQ hS m l (k + 1) _ l2 _ hl' hB (hcl.set hr') hK hL)
        simpa [Nat.add_assoc] using this
    · cases hB

theorem take_free {cs : List Nat} (hsel : Region.noSelect ops = true) (hQ : ∀ c a (d : Tmp) v w, Q (.panic c) (Act.put a (some d) v) w → Q (.panic c) a w) {fuel : Nat} {Lq : Act → Prop} {w : World} (hS : S w) :
    ∀ (m : List Bool) (l : List Oper) (k : Nat) (listed l2 : Array Bool) (a : Act), (∀ j, l[j]? = ops[k + j]?) → takeB md ops cs false m k listed = some l2 → Cl md ops listed →
    wpQuiet P ops (fun _ => True) Lq (maskL m l) a → (∀ a', Cl md ops l2 → Lq a' → wpAnyM P md ops Q S (fun i => cs.contains i) fuel l2 a' w) → wpAnyM P md ops Q S (fun i => cs.contains i) (fuel + m.count true) listed a w
  | [], l, k, listed, l2, a, _, hB, hcl, h, hL => by
    simp only [takeB, Option.some.injEq] at hB
    subst hB
    cases l <;> exact hL a hcl h
  | false :: m, l, k, listed, l2, a, hl, hB, hcl, h, hL => by
    simp only [takeB] at hB
    cases l with
    | nil =>
      have := take_free hsel hQ hS m [] (k + 1) listed l2 a (fun j => by have := hl (j + 1); simpa [Nat.add_assoc, Nat.add_comm 1 j] using this) hB hcl (by cases m with | nil => exact h | cons b m => cases b <;> exact h) hL
      simpa using this
    | cons o l =>
      have := take_free hsel hQ hS m l (k + 1) listed l2 a (fun j => by have := hl (j + 1); simpa [Nat.add_assoc, Nat.add_comm 1 j] using this) hB hcl h hL
      simpa using this
  | true :: m, l, k, listed, l2, a, hl, hB, hcl, h, hL => by
    simp only [takeB] at hB
    split at hB
    · rename_i hc
      simp only [Bool.and_eq_true, Bool.not_eq_true'] at hc
      obtain ⟨⟨⟨⟨hr, hf⟩, hp⟩, hne⟩, _⟩ := hc
      cases l with
      | nil =>
        have h0 : ops[k]? = none := by simpa using (hl 0).symm
        simp [pureAt, h0] at hp
      | cons o l =>
        have h0 : ops[k]? = some o := by simpa using (hl 0).symm
        have hp' : pureKind o = true := by simpa [pureAt, h0] using hp
        have hr' : k ∈ Region.ready md ops listed := by simpa using hr
        have hl' : ∀ j, l[j]? = ops[k + 1 + j]? := fun j => by have := hl (j + 1); simpa [Nat.add_assoc, Nat.add_comm 1 j] using this
        have hstep : ∃ v, YieldsIf P ops (fun _ => True) o v a ∧ wpQuiet P ops (fun _ => True) Lq (maskL m l) (a.put o.dst v) := by
          have h' : wpQuiet P ops (fun _ => True) Lq (o :: maskL m l) a := h
          simp only [wpQuiet] at h'
          split at h'
          · rename_i hw; exact yields_of_quiet hp' hw h'
          · rename_i hw; exact ⟨undef, .inr ⟨by simpa using hw, rfl⟩, h'⟩
        obtain ⟨v, hy, hK⟩ := hstep
        have := wpAnyM_free (C := fun i => cs.contains i) (S := S) h0 (Region.noSelect_spec hsel) (hQ_all hQ) hne (fuel + m.count true) listed a w hcl (Region.free_spec h0 hf) hr' hy (.inr hS)
          (take_free hsel hQ hS m l (k + 1) _ l2 _ hl' hB (hcl.set hr') hK hL)
        simpa [Nat.add_assoc] using this
    · cases hB

/-- What is left comes in a forced order. -/
def runB (md : Region.Mode) (ops : Array Oper) : List Bool → Nat → Array Bool → Option (Array Bool)
  | [], _, listed => some listed
  | false :: m, k, listed => runB md ops m (k + 1) listed
  | true :: m, k, listed => if decide (Region.ready md ops listed = [k]) then runB md ops m (k + 1) (listed.setIfInBounds k true) else none

/-- One operation behind the other, S holding behind each; then 'last'. -/
def wpListS (P : Program) (ops : Array Oper) (Q : Exit → Act → World → Prop) (S : World → Prop) (last : Act → World → Prop) : List Oper → Act → World → Prop
  | [], a, w => last a w
  | o :: r, a, w => wpList P ops (Exit.then (fun a' w' => S w' ∧ wpListS P ops Q S last r a' w') Q) [o] a w

theorem wpOp_of_list {k : Nat} {o : Oper} (h0 : ops[k]? = some o) {K : Act → World → Prop} {a : Act} {w : World} (h : wpList P ops (Exit.then K Q) [o] a w) : wpOp P ops Q k K a w := by
  unfold wpOp
  simp only [h0]
  simp only [wpList] at h
  split
  · rename_i hw
    simp only [hw, if_true] at h
    rcases h with h | ⟨h1, a1, w1, h2⟩
    · left
      unfold Oper.wp at *
      generalize (execOp a.eval o).run P w = r at *
      cases r with
      | ok n w' =>
        cases n <;> simp only [Oper.upon] at h ⊢
        case value u => exact h
        case skip => exact h
        case defer d => exact h
        case enter f args =>
          refine Calls.mono h fun e w'' he => ?_
          cases e with
          | returned u => exact he
          | panicked c => exact he
          | outgrown => obtain ⟨a2, w2, h3⟩ := he; exact ⟨a2, w2, h3⟩
        case row row args => exact Rows.mono h fun u w'' he => he
      | halt x w' =>
        cases x <;> simp only [Oper.upon] at h ⊢
        case panic u => exact h
    · exact .inr ⟨h1, a1, w1, h2⟩
  · rename_i hw
    simp only [hw] at h
    exact h

theorem run_held {fuel : Nat} {last : Act → World → Prop} :
    ∀ (m : List Bool) (l : List Oper) (k : Nat) (listed l2 : Array Bool) (a : Act) (w : World), S w → (∀ j, l[j]? = ops[k + j]?) → runB md ops m k listed = some l2 →
    wpListS P ops Q S last (maskL m l) a w → (∀ a' w', S w' → last a' w' → wpAnyM P md ops Q S C fuel l2 a' w') → wpAnyM P md ops Q S C (fuel + m.count true) listed a w
  | [], l, k, listed, l2, a, w, hS, _, hB, h, hL => by
    simp only [runB, Option.some.injEq] at hB
    subst hB
    cases l <;> exact hL a w hS h
  | false :: m, l, k, listed, l2, a, w, hS, hl, hB, h, hL => by
    simp only [runB] at hB
    cases l with
    | nil =>
      have := run_held m [] (k + 1) listed l2 a w hS (fun j => by have := hl (j + 1); simpa [Nat.add_assoc, Nat.add_comm 1 j] using this) hB (by cases m with | nil => exact h | cons b m => cases b <;> exact h) hL
      simpa using this
    | cons o l =>
      have := run_held m l (k + 1) listed l2 a w hS (fun j => by have := hl (j + 1); simpa [Nat.add_assoc, Nat.add_comm 1 j] using this) hB h hL
      simpa using this
  | true :: m, l, k, listed, l2, a, w, _, hl, hB, h, hL => by
    simp only [runB] at hB
    split at hB
    · rename_i hr
      have hr' : Region.ready md ops listed = [k] := by simpa using hr
      cases l with
      | nil =>
        have h0 : ops[k]? = none := by simpa using (hl 0).symm
        have : k ∈ Region.ready md ops listed := by rw [hr']; exact List.mem_singleton.2 rfl
        obtain ⟨_, o, ho, _⟩ := mem_ready.1 this
        rw [h0] at ho; cases ho
      | cons o l =>
        have h0 : ops[k]? = some o := by simpa using (hl 0).symm
        have hl' : ∀ j, l[j]? = ops[k + 1 + j]? := fun j => by have := hl (j + 1); simpa [Nat.add_assoc, Nat.add_comm 1 j] using this
        have h1 : wpOp P ops Q k (fun a' w' => S w' ∧ wpListS P ops Q S last (maskL m l) a' w') a w := wpOp_of_list h0 h
        have := wpAnyM_one (C := C) (S := S) (fuel := fuel + m.count true) hr' (wpOp_mono (fun a' w' h2 => ⟨.inr (.inr h2.1), run_held m l (k + 1) _ l2 a' w' h2.1 hl' hB h2.2 hL⟩) h1)
        simpa [Nat.add_assoc] using this
    · cases hB

/-- Two that may come up: whichever does. -/
theorem wpAny_fork {fuel i j : Nat} {oi oj : Oper} {listed : Array Bool} {a : Act} {w : World} (hr : Region.ready md ops listed = [i, j]) (hi : ops[i]? = some oi) (hj : ops[j]? = some oj)
    (h1 : wpList P ops (Exit.then (wpAny P md ops Q fuel (listed.setIfInBounds i true)) Q) [oi] a w) (h2 : wpList P ops (Exit.then (wpAny P md ops Q fuel (listed.setIfInBounds j true)) Q) [oj] a w) : wpAny P md ops Q (fuel + 1) listed a w := by
  refine ⟨fun h0 => (by rw [hr] at h0; cases h0), fun k hk => ?_⟩
  rw [hr] at hk
  have : k = i ∨ k = j := by simpa using hk
  rcases this with rfl | rfl
  · exact wpOp_of_list hi h1
  · exact wpOp_of_list hj h2
/-- The one that may come up. -/
theorem wpAny_one {fuel i : Nat} {oi : Oper} {listed : Array Bool} {a : Act} {w : World} (hr : Region.ready md ops listed = [i]) (hi : ops[i]? = some oi)
    (h1 : wpList P ops (Exit.then (wpAny P md ops Q fuel (listed.setIfInBounds i true)) Q) [oi] a w) : wpAny P md ops Q (fuel + 1) listed a w := by
  refine ⟨fun h0 => (by rw [hr] at h0; cases h0), fun k hk => ?_⟩
  rw [hr] at hk
  have : k = i := by simpa using hk
  subst this
  exact wpOp_of_list hi h1
theorem wpAny_none {listed : Array Bool} {a : Act} {w : World} (hr : Region.ready md ops listed = []) (h : Q .normal a w) : wpAny P md ops Q 0 listed a w := ⟨hr, h⟩
/-- All that is left comes in a forced order. -/
theorem wpAny_list : ∀ (m : List Bool) (l : List Oper) (k : Nat) (listed : Array Bool) (a : Act) (w : World), (∀ j, l[j]? = ops[k + j]?) → (∃ l2, runB md ops m k listed = some l2 ∧ Region.ready md ops l2 = []) →
    wpList P ops Q (maskL m l) a w → wpAny P md ops Q (m.count true) listed a w
  | [], l, k, listed, a, w, _, ⟨l2, hB, hr⟩, h => by
    simp only [runB, Option.some.injEq] at hB
    subst hB
    exact ⟨hr, by cases l <;> exact h⟩
  | false :: m, l, k, listed, a, w, hl, ⟨l2, hB, hr⟩, h => by
    simp only [runB] at hB
    cases l with
    | nil =>
      have := wpAny_list m [] (k + 1) listed a w (fun j => by have := hl (j + 1); simpa [Nat.add_assoc, Nat.add_comm 1 j] using this) ⟨l2, hB, hr⟩ (by cases m with | nil => exact h | cons b m => cases b <;> exact h)
      simpa using this
    | cons o l =>
      have := wpAny_list m l (k + 1) listed a w (fun j => by have := hl (j + 1); simpa [Nat.add_assoc, Nat.add_comm 1 j] using this) ⟨l2, hB, hr⟩ h
      simpa using this
  | true :: m, l, k, listed, a, w, hl, ⟨l2, hB, hr⟩, h => by
    simp only [runB] at hB
    split at hB
    · rename_i hr1
      have hr1 : Region.ready md ops listed = [k] := by simpa using hr1
      have hm : k ∈ Region.ready md ops listed := by rw [hr1]; exact List.mem_singleton.2 rfl
      cases l with
      | nil =>
        have h0 : ops[k]? = none := by simpa using (hl 0).symm
        obtain ⟨_, o, ho, _⟩ := mem_ready.1 hm
        rw [h0] at ho; cases ho
      | cons o l =>
        have h0 : ops[k]? = some o := by simpa using (hl 0).symm
        have hl' : ∀ j, l[j]? = ops[k + 1 + j]? := fun j => by have := hl (j + 1); simpa [Nat.add_assoc, Nat.add_comm 1 j] using this
        have h1 : wpOp P ops Q k (wpList P ops Q (maskL m l)) a w := by unfold wpOp; simp only [h0]; exact h
        have : wpAny P md ops Q (m.count true + 1) listed a w := by
          refine ⟨fun h0 => (by rw [hr1] at h0; cases h0), fun j hj => ?_⟩
          rw [hr1] at hj
          have : j = k := by simpa using hj
          subst this
          exact wpOp_mono (fun a' w' h2 => wpAny_list m l (j + 1) _ a' w' hl' ⟨l2, hB, hr⟩ h2) h1
        simpa using this
    · cases hB

/-- Behind the reads nothing is asked of the world: from where all that may come up belongs to C. -/
theorem M_of_wpAny : ∀ (fuel : Nat) (listed : Array Bool) (a : Act) (w : World), Cl md ops listed → (Gone C listed ∨ ∀ i ∈ Region.ready md ops listed, C i = true) → wpAny P md ops Q fuel listed a w → wpAnyM P md ops Q S C fuel listed a w
  | 0, _, _, _, _, _, h => h
  | fuel + 1, listed, a, w, hcl, hg, h => ⟨h.1, fun i hi => wpOp_mono (fun a' w' h' => ⟨hg.elim .inl (fun g => .inr (.inl (g i hi))),
      M_of_wpAny fuel _ a' w' (hcl.set hi) (.inl (hg.elim (fun ⟨c, h1, h2⟩ => ⟨c, h1, getD_set_true h2⟩) (fun g => ⟨i, g i hi, getD_set_self hi hcl⟩))) h'⟩) (h.2 i hi)⟩

/-- A plan's steps: what is taken in whatever world; what is taken while S holds; what comes in a forced order. -/
inductive Ph where
  | free (m : List Bool)
  | dep (m : List Bool)
  | run (m : List Bool)
def Ph.count : Ph → Nat
  | .free m => m.count true
  | .dep m => m.count true
  | .run m => m.count true
def planB (md : Region.Mode) (ops : Array Oper) (cs : List Nat) : List Ph → Array Bool → Option (Array Bool)
  | [], listed => if (Region.ready md ops listed).all (fun i => cs.contains i) then some listed else none
  | .free m :: r, listed => (takeB md ops cs false m 0 listed).bind (planB md ops cs r)
  | .dep m :: r, listed => (takeB md ops cs true m 0 listed).bind (planB md ops cs r)
  | .run m :: r, listed => (runB md ops m 0 listed).bind (planB md ops cs r)
def planN : List Ph → Nat → Nat
  | [], n => n
  | p :: r, n => planN r n + p.count
def wpPlan (P : Program) (l : List Oper) (Q : Exit → Act → World → Prop) (S : World → Prop) (last : Act → World → Prop) : List Ph → Act → World → Prop
  | [], a, w => last a w
  | .free m :: r, a, w => wpQuiet P l.toArray (fun _ => True) (fun a' => wpPlan P l Q S last r a' w) (maskL m l) a
  | .dep m :: r, a, w => wpQuiet P l.toArray S (fun a' => wpPlan P l Q S last r a' w) (maskL m l) a
  | .run m :: r, a, w => wpListS P l.toArray Q S (fun a' w' => wpPlan P l Q S last r a' w') (maskL m l) a w

theorem run_cl : ∀ (m : List Bool) (k : Nat) (listed l2 : Array Bool), runB md ops m k listed = some l2 → Cl md ops listed → Cl md ops l2
  | [], _, _, _, h, hcl => by simp only [runB, Option.some.injEq] at h; subst h; exact hcl
  | false :: m, k, listed, l2, h, hcl => by simp only [runB] at h; exact run_cl m (k + 1) listed l2 h hcl
  | true :: m, k, listed, l2, h, hcl => by
    simp only [runB] at h
    split at h
    · rename_i hr
      have hr' : Region.ready md ops listed = [k] := by simpa using hr
      exact run_cl m (k + 1) _ l2 h (hcl.set (by rw [hr']; exact List.mem_singleton.2 rfl))
    · cases h

theorem take_cl (cs : List Nat) (dep : Bool) : ∀ (m : List Bool) (k : Nat) (listed l2 : Array Bool), takeB md ops cs dep m k listed = some l2 → Cl md ops listed → Cl md ops l2
  | [], _, _, _, h, hcl => by simp only [takeB, Option.some.injEq] at h; subst h; exact hcl
  | false :: m, k, listed, l2, h, hcl => by simp only [takeB] at h; exact take_cl cs dep m (k + 1) listed l2 h hcl
  | true :: m, k, listed, l2, h, hcl => by
    simp only [takeB] at h
    split at h
    · rename_i hc
      simp only [Bool.and_eq_true] at hc
      exact take_cl cs dep m (k + 1) _ l2 h (hcl.set (by simpa using hc.1.1.1.1))
    · cases h

theorem plan_sound {l : List Oper} {cs : List Nat} (hsel : Region.noSelect l.toArray = true) (hQ : ∀ c a (d : Tmp) v w, Q (.panic c) (Act.put a (some d) v) w → Q (.panic c) a w) {fuel : Nat} {l4 : Array Bool} :
    ∀ (p : List Ph) (listed : Array Bool) (a : Act) (w : World), planB .any l.toArray cs p listed = some l4 → Cl .any l.toArray listed → S w →
    wpPlan P l Q S (fun a' w' => wpAny P .any l.toArray Q fuel l4 a' w') p a w → wpAnyM P .any l.toArray Q S (fun i => cs.contains i) (planN p fuel) listed a w
  | [], listed, a, w, hB, hcl, hS, h => by
    unfold planB at hB
    split at hB
    · rename_i hall
      simp only [Option.some.injEq] at hB
      subst hB
      exact M_of_wpAny fuel listed a w hcl (.inr fun i hi => List.all_eq_true.1 hall i hi) h
    · cases hB
  | .free m :: r, listed, a, w, hB, hcl, hS, h => by
    obtain ⟨l2, h1, h2⟩ := Option.bind_eq_some_iff.1 hB
    exact take_free (cs := cs) hsel hQ hS m l 0 listed l2 a (fun j => by simp) h1 hcl h fun a' cl' g => plan_sound hsel hQ r l2 a' w h2 cl' hS g
  | .dep m :: r, listed, a, w, hB, hcl, hS, h => by
    obtain ⟨l2, h1, h2⟩ := Option.bind_eq_some_iff.1 hB
    exact take_dep (cs := cs) hsel hQ hS m l 0 listed l2 a (fun j => by simp) h1 hcl h fun a' cl' g => plan_sound hsel hQ r l2 a' w h2 cl' hS g
  | .run m :: r, listed, a, w, hB, hcl, hS, h => by
    obtain ⟨l2, h1, h2⟩ := Option.bind_eq_some_iff.1 hB
    exact run_held (C := fun i => cs.contains i) m l 0 listed l2 a w hS (fun j => by simp) h1 h fun a' w' hS' g => plan_sound hsel hQ r l2 a' w' h2 (run_cl _ _ _ _ h1 hcl) hS' g

/-- A region that draws its order, by a plan; S is shown as long as a read may still come. -/
theorem wp_region_plan {id : Nat} {l : List Oper} {a : Act} {w : World} (S : World → Prop) (cs : List Nat) (p : List Ph) (l4 : Array Bool) (fuel : Nat) (hm : P.follows .mixedOrders = true) (hsel : Region.noSelect l.toArray = true) (hB : planB .any l.toArray cs p (Array.replicate l.toArray.size false) = some l4)
    (hsum : decide (planN p fuel = l.toArray.size) = true)
    (hQ : ∀ c a (d : Tmp) v w, Q (.panic c) (Act.put a (some d) v) w → Q (.panic c) a w) (hS : S w.drew)
    (h : wpPlan P l Q S (fun a4 w4 => wpAny P .any l.toArray Q fuel l4 a4 w4) p a w.drew) :
    (Code.region id l.toArray true).wp P Q a w := by
  have cl0 : Cl .any l.toArray (Array.replicate l.toArray.size false) := ⟨by simp, fun j oj _ hl => (by rw [getD_replicate_false] at hl; cases hl)⟩
  have key := plan_sound hsel hQ p _ a _ hB cl0 hS h
  rw [of_decide_eq_true hsum] at key
  exact wp_region_any hm (wpAny_of_M (S := S) (C := fun i => cs.contains i) _ _ _ _ key)
/-- The end of a plan: what is left comes in a forced order. -/
theorem wpAny_tail {l : List Oper} {listed : Array Bool} {a : Act} {w : World} (m : List Bool) (l2 : Array Bool) (hB : runB md l.toArray m 0 listed = some l2) (hr : (Region.ready md l.toArray l2).isEmpty = true)
    (h : wpList P l.toArray Q (maskL m l) a w) : wpAny P md l.toArray Q (m.count true) listed a w :=
  wpAny_list m l 0 listed a w (fun j => by simp) ⟨l2, hB, by simpa using hr⟩ h
end
end Go.Proofs.Ytiemfklonhlnnaa.Mix2

namespace Go.Proofs.Ytiemfklonhlnnaa.Mix
open Go Go.RowKit

/-- Values put into their places, as far as they are there. -/
def putO (a : Act) : List (Nat × Option Tmp) → (Nat → Option Value) → Act
  | [], _ => a
  | (i, d) :: r, B => match B i with
    | none => putO a r B
    | some v => (putO a r B).put d v
theorem putO_congr (a : Act) : ∀ (ds : List (Nat × Option Tmp)) (B B' : Nat → Option Value), (∀ p ∈ ds, B p.1 = B' p.1) → putO a ds B = putO a ds B'
  | [], _, _, _ => rfl
  | (i, d) :: r, B, B', h => by
    have h1 : B i = B' i := h (i, d) List.mem_cons_self
    have h2 := putO_congr a r B B' fun p hp => h p (List.mem_cons_of_mem _ hp)
    unfold putO
    rw [h1, h2]
theorem putO_none (a : Act) : ∀ ds : List (Nat × Option Tmp), putO a ds (fun _ => none) = a
  | [] => rfl
  | (i, d) :: r => by unfold putO; exact putO_none a r
theorem putO_upd (a : Act) : ∀ (ds : List (Nat × Option Tmp)) (B : Nat → Option Value) (i : Nat) (d : Option Tmp) (v : Value), (ds.map (·.1)).Nodup → (ds.filterMap (·.2)).Nodup → (i, d) ∈ ds → B i = none → (putO a ds B).put d v = putO a ds (updV B i v)
  | [], _, _, _, _, _, _, h, _ => by cases h
  | (j, e) :: r, B, i, d, v, h1, h2, h, hn => by
    simp only [List.map_cons, List.nodup_cons] at h1
    rcases List.mem_cons.1 h with h3 | h3
    · obtain ⟨rfl, rfl⟩ := Prod.mk.inj h3
      have e1 : putO a r (updV B i v) = putO a r B := putO_congr a r _ _ fun p hp => by
        unfold updV
        rw [if_neg]
        intro h4
        exact h1.1 (List.mem_map.2 ⟨p, hp, h4⟩)
      have e2 : updV B i v i = some v := by unfold updV; rw [if_pos rfl]
      unfold putO
      rw [e1, e2, hn]
    · have hj : j ≠ i := fun e => h1.1 (by rw [e]; exact List.mem_map.2 ⟨(i, d), h3, rfl⟩)
      have h2' : (r.filterMap (·.2)).Nodup := by
        cases e with
        | none => simpa [List.filterMap_cons] using h2
        | some t => simp only [List.filterMap_cons, List.nodup_cons] at h2; exact h2.2
      have he : ∀ t, e = some t → d ≠ some t := fun t ht hd => by
        subst ht hd
        simp only [List.filterMap_cons, List.nodup_cons] at h2
        exact h2.1 (List.mem_filterMap.2 ⟨(i, some t), h3, rfl⟩)
      have e1 := putO_upd a r B i d v h1.2 h2' h3 hn
      have e2 : updV B i v j = B j := by unfold updV; rw [if_neg hj]
      unfold putO
      rw [e2, ← e1]
      cases B j with
      | none => rfl
      | some u => exact Act.put_comm _ u v he
theorem putO_size (a : Act) : ∀ (ds : List (Nat × Option Tmp)) (B : Nat → Option Value), (putO a ds B).tmps.size = a.tmps.size
  | [], _ => rfl
  | (j, e) :: r, B => by
    have := putO_size a r B
    unfold putO
    cases B j with
    | none => exact this
    | some u => cases e <;> simp [Act.put, this]
theorem putO_eval (a : Act) : ∀ (ds : List (Nat × Option Tmp)) (B : Nat → Option Value) (i : Nat) (d : Tmp) (v : Value), (ds.map (·.1)).Nodup → (ds.filterMap (·.2)).Nodup → (i, some d) ∈ ds → d < a.tmps.size → B i = some v → (putO a ds B).eval (.tmp d) = v
  | [], _, _, _, _, _, _, h, _, _ => by cases h
  | (j, e) :: r, B, i, d, v, h1, h2, h, hd, hv => by
    simp only [List.map_cons, List.nodup_cons] at h1
    rcases List.mem_cons.1 h with h3 | h3
    · obtain ⟨rfl, rfl⟩ := Prod.mk.inj h3
      have := putO_size a r B
      unfold putO
      rw [hv]
      simp [Act.put, Act.eval, this, hd]
    · have h2' : (r.filterMap (·.2)).Nodup := by
        cases e with
        | none => simpa [List.filterMap_cons] using h2
        | some t => simp only [List.filterMap_cons, List.nodup_cons] at h2; exact h2.2
      have he : ∀ t, e = some t → t ≠ d := fun t ht hd => by
        subst ht hd
        simp only [List.filterMap_cons, List.nodup_cons] at h2
        exact h2.1 (List.mem_filterMap.2 ⟨(i, some t), h3, rfl⟩)
      have e1 := putO_eval a r B i d v h1.2 h2' h3 hd hv
      unfold putO
      cases B j with
      | none => exact e1
      | some u => exact (Act.eval_put fun d' hd' hx => by cases hx; exact he _ hd' rfl).trans e1
theorem putO_ne (a : Act) : ∀ (ds : List (Nat × Option Tmp)) (B : Nat → Option Value) (d : Tmp), (∀ q ∈ ds, q.2 ≠ some d) → (putO a ds B).eval (.tmp d) = a.eval (.tmp d)
  | [], _, _, _ => rfl
  | (j, e) :: r, B, d, h => by
    have e1 := putO_ne a r B d fun q hq => h q (List.mem_cons_of_mem _ hq)
    have he := h (j, e) List.mem_cons_self
    unfold putO
    cases B j with
    | none => exact e1
    | some u => exact (Act.eval_put fun d' hd' hx => by cases hx; exact he hd').trans e1
/-- Operations that hang on one another, in whatever order they come up, under an invariant of what has been yielded. -/
theorem wpAny_dagO {P : Program} {md : Region.Mode} {ops : Array Oper} {Q : Exit → Act → World → Prop} {w : World} {a : Act} {listed : Array Bool} (le : Array Bool) (fuel : Nat) (ds : List (Nat × Option Tmp)) (deps : Nat → List Nat) (I : (Nat → Option Value) → World → Prop)
    (hd1 : (ds.map (·.1)).Nodup) (hd2 : (ds.filterMap (·.2)).Nodup)
    (h0 : I (fun _ => none) w)
    (hop : ∀ p ∈ ds, ∀ B W (K : Act → World → Prop), I B W → B p.1 = none → (∀ q ∈ ds, q.1 ∈ deps p.1 → ∃ v, B q.1 = some v) →
      (∀ v W', I (updV B p.1 v) W' → K ((putO a ds B).put p.2 v) W') → wpOp P ops Q p.1 K (putO a ds B) W)
    (hB : mkD md ops le deps ds.length (ds.map (·.1)) listed = true)
    (tail : ∀ B W, I B W → (∀ p ∈ ds, ∃ v, B p.1 = some v) → wpAny P md ops Q fuel le (putO a ds B) W) :
    wpAny P md ops Q (fuel + ds.length) listed a w := by
  have key := wpAny_dagI (P := P) (md := md) (ops := ops) (Q := Q)
    (fun todo a' W => ∃ B, a' = putO a ds B ∧ I B W ∧ todo.Nodup ∧ (∀ i ∈ todo, i ∈ ds.map (·.1)) ∧ ∀ p ∈ ds, p.1 ∈ todo ↔ B p.1 = none) le fuel deps ?step ?tail ds.length (ds.map (·.1)) listed a w hB (by simp) ?init
  case init => exact ⟨fun _ => none, (putO_none a ds).symm, h0, hd1, fun i hi => hi, fun p hp => ⟨fun _ => rfl, fun _ => List.mem_map.2 ⟨p, hp, rfl⟩⟩⟩
  case tail =>
    rintro a' W ⟨B, rfl, hI, -, -, hn⟩
    refine tail B W hI fun p hp => ?_
    exact Option.ne_none_iff_exists'.1 fun e => by have := (hn p hp).2 e; cases this
  case step =>
    rintro todo i a' W hi hde ⟨B, rfl, hI, hnd, ht, hn⟩
    obtain ⟨⟨i', d⟩, hp, rfl⟩ := List.mem_map.1 (ht i hi)
    have hBn := (hn _ hp).1 hi
    refine hop _ hp B W _ hI hBn (fun q hq hqd => Option.ne_none_iff_exists'.1 fun e => hde _ hqd ((hn q hq).2 e)) fun v W' hI' => ?_
    refine ⟨updV B i' v, putO_upd a ds B i' d v hd1 hd2 hp hBn, hI', hnd.erase _, fun j hj => ht j (List.mem_of_mem_erase hj), fun q hq => ?_⟩
    unfold updV
    by_cases h : q.1 = i'
    · rw [if_pos h, h]
      exact ⟨fun hm => absurd hm hnd.not_mem_erase, fun hm => by cases hm⟩
    · rw [if_neg h]
      exact ⟨fun hm => (hn q hq).1 (List.mem_of_mem_erase hm), fun e => (List.mem_erase_of_ne h).2 ((hn q hq).2 e)⟩
  exact key
/-- An operation that yields nothing. -/
theorem wpOp_skip {P : Program} {ops : Array Oper} {Q : Exit → Act → World → Prop} {i : Nat} {o : Oper} {K : Act → World → Prop} {A : Act} {W W' : World} (h0 : ops[i]? = some o) (hw : Region.wanted o (yielded ops A.tmps) = true)
    (hr : (execOp A.eval o).run P W = .ok .skip W') (h : K (A.put o.dst undef) W') : wpOp P ops Q i K A W := by
  unfold wpOp
  simp only [h0]
  rw [if_pos hw]
  left
  unfold Oper.wp
  rw [hr]
  exact h
theorem updV_some {B : Nat → Option Value} {i j : Nat} {v u : Value} (h : updV B i v j = some u) : (j = i ∧ u = v) ∨ (j ≠ i ∧ B j = some u) := by
  unfold updV at h
  split at h
  · exact .inl ⟨by assumption, (Option.some.inj h).symm⟩
  · exact .inr ⟨by assumption, h⟩
theorem updV_none {B : Nat → Option Value} {i j : Nat} {v : Value} (h : updV B i v j = none) : j ≠ i ∧ B j = none := by
  unfold updV at h
  split at h
  · cases h
  · exact ⟨by assumption, h⟩
theorem any_gen {P : Program} {md : Region.Mode} {ops : Array Oper} {Q : Exit → Act → World → Prop} {fuel : Nat} {listed : Array Bool} {a : Act} {w W : World} (hb : Below w.heap.size w W) (h : ∀ wx, Below w.heap.size w wx → wpAny P md ops Q fuel listed a wx) : wpAny P md ops Q fuel listed a W := h W hb
/-- A guarded operation, where the guard has yielded what it waits for. -/
theorem wanted_at {ops : Array Oper} {o : Oper} {A : Act} {j d : Nat} {want : Bool} (hg : o.guard = some (j, want)) (hj : (ops[j]?).bind (·.dst) = some d) (hd : d < A.tmps.size) (hv : A.eval (.tmp d) = .bool want) : Region.wanted o (yielded ops A.tmps) = true := by
  have e : A.tmps[d]? = some (.bool want) := by
    simp [Act.eval, hd] at hv
    simp [hd, hv]
  unfold Region.wanted yielded
  rw [hg]
  dsimp only
  rw [hj]
  simp [e]
end Go.Proofs.Ytiemfklonhlnnaa.Mix

namespace Go.Proofs.Ytiemfklonhlnnaa.Load
open Go.RowKit Go.Shelf Go.Sort Go.Proofs.Ytiemfklonhlnnaa Go.Proofs.Ytiemfklonhlnnaa.Occ Go.Proofs.Ytiemfklonhlnnaa.Slo Go.Proofs.Ytiemfklonhlnnaa.Seek Go.Proofs.Ytiemfklonhlnnaa.Lay

/-- The chapter's config; none. -/
def c0 : Conf.Cfg := ⟨1, 8, 4, 16, 8, 0, 1, 4, 8⟩
def cz : Conf.Cfg := ⟨0, 0, 0, 0, 0, 0, 0, 0, 0⟩
theorem c0_wf : c0.Wf := by constructor <;> decide
theorem cz_wf : cz.Wf := by constructor <;> decide
/-- A sum, as the machine has it. -/
def sumW (zs : List Int) : Int := zs.foldl (fun n x => IntKind.i64.wrap (n + x)) 0
theorem sumW_take (zs : List Int) (k : Nat) (h : k < zs.length) : sumW (zs.take (k + 1)) = IntKind.i64.wrap (sumW (zs.take k) + zs.getD k 0) := by
  unfold sumW
  rw [List.take_succ_eq_append_getElem h, List.foldl_append]
  simp [List.getD_eq_getElem?_getD, h]
/-- How many pairs the segments from one to another have. -/
def amongV (s : Sl) (a b : Nat) : Int := sumW ((s.cs.drop a).take (b - a))
def finB (s : Sl) : Bool := (List.range 3).all fun h => (List.range (2 ^ (2 - h))).all fun k => (Conf.fullV c0 16 (h : Nat) (amongV s (k * 2 ^ h) ((k + 1) * 2 ^ h))).1 && (Conf.sparseV c0 16 (h : Nat) (amongV s (k * 2 ^ h) ((k + 1) * 2 ^ h))).1
/-- An array of the chapter's config. -/
structure Good (s : Sl) : Prop where
  wf : s.Wf
  ok : okS s = true
  seg : s.seg = 4
  ks : s.ks.length = 16
  cs : s.cs.length = 4
  fin : finB s = true
  most : amongV s 0 4 ≤ 8
  chk : chkK s = 0
def goodB (s : Sl) : Bool := ((Lit.int .i64 s.seg).wf && (s.ws.all fun z => decide (0 ≤ z ∧ z < 18446744073709551616)) && decide (0 ≤ s.laid ∧ s.laid < 18446744073709551616) && decide (s.ws.length ≤ 100000 ∧ s.ks.length ≤ 100000 ∧ s.vs.length ≤ 100000 ∧ s.cs.length ≤ 100000))
  && (okS s && decide (s.seg = 4) && decide (s.ks.length = 16) && decide (s.cs.length = 4) && finB s && decide (amongV s 0 4 ≤ 8) && decide (chkK s = 0))
theorem good_of {s : Sl} (h : goodB s = true) : Good s := by
  unfold goodB at h
  simp only [Bool.and_eq_true, decide_eq_true_eq] at h
  obtain ⟨⟨⟨⟨h1, h2⟩, h3⟩, h4⟩, ⟨⟨⟨⟨⟨h5, h6⟩, h7⟩, h8⟩, h9⟩, h10⟩, h11⟩ := h
  exact ⟨wf_of h1 h2 (by simpa using h3) h4, h5, h6, h7, h8, h9, h10, h11⟩
theorem Good.at {s : Sl} (G : Good s) {h k : Nat} (hh : h < 3) (hk : k < 2 ^ (2 - h)) : (Conf.fullV c0 16 (h : Nat) (amongV s (k * 2 ^ h) ((k + 1) * 2 ^ h))).1 = true ∧ (Conf.sparseV c0 16 (h : Nat) (amongV s (k * 2 ^ h) ((k + 1) * 2 ^ h))).1 = true := by
  have h1 := G.fin
  unfold finB at h1
  have h2 := List.all_eq_true.1 (List.all_eq_true.1 h1 h (List.mem_range.2 hh)) k (List.mem_range.2 hk)
  simpa using h2
theorem rows0 : ∀ h : Fin 3, (Win.rowV 4 16 (h.1 : Nat)).2 = 0 ∧ (Win.rowV 4 16 (h.1 : Nat)).1.length = 2 ^ (2 - h.1) ∧ ∀ k : Fin 4, k.1 < 2 ^ (2 - h.1) → (Win.rowV 4 16 (h.1 : Nat)).1.getD k.1 (0, 0) = (((4 * (k.1 * 2 ^ h.1) : Nat) : Int), ((4 * ((k.1 + 1) * 2 ^ h.1) : Nat) : Int)) := by decide +kernel
theorem row_at {h k : Nat} (hh : h < 3) (hk : k < 2 ^ (2 - h)) : (Win.rowV 4 16 (h : Nat)).1.getD k (0, 0) = (((4 * (k * 2 ^ h) : Nat) : Int), ((4 * ((k + 1) * 2 ^ h) : Nat) : Int)) := by
  have hk4 : k < 4 := by
    have : 2 ^ (2 - h) ≤ 2 ^ 2 := Nat.pow_le_pow_right (by decide) (by omega)
    omega
  exact (rows0 ⟨h, hh⟩).2.2 ⟨k, hk4⟩ hk
theorem row_len {h : Nat} (hh : h < 3) : (Win.rowV 4 16 (h : Nat)).1.length = 2 ^ (2 - h) := (rows0 ⟨h, hh⟩).2.1
theorem row_in {h k : Nat} (hh : h < 3) (hk : k < 2 ^ (2 - h)) : k * 2 ^ h ≤ (k + 1) * 2 ^ h ∧ (k + 1) * 2 ^ h ≤ 4 := by
  refine ⟨Nat.mul_le_mul_right _ (by omega), ?_⟩
  have h1 : (k + 1) * 2 ^ h ≤ 2 ^ (2 - h) * 2 ^ h := Nat.mul_le_mul_right _ (by omega)
  rw [← Nat.pow_add, show 2 - h + h = 2 by omega] at h1
  exact h1
theorem cap0 : ∀ n : Fin 9, Conf.capV c0 (n.1 : Nat) = (16, 0) := by decide +kernel
/-- What is laid anew. -/
def anewV (s : Sl) (ps : List (Int × Int)) : (Conf.Cfg × Sl) × Int := if 8 < ps.length then ((cz, noneS), 9) else ((c0, (intoSV s 16 ps).1), 0)
theorem into_ok {s : Sl} (G : Good s) {ps : List (Int × Int)} (h : ps.length ≤ 8) : intoSV s 16 ps = ((intoSV s 16 ps).1, 0) := by
  have h1 : chkS s = 0 := by unfold chkS; rw [if_pos G.ok]
  have h2 : ¬ (fitsB s.seg 16 = false ∨ (16 : Int) < ps.length) := by
    rw [G.seg]
    rintro (g | g)
    · exact absurd g (by decide +kernel)
    · omega
  unfold intoSV
  rw [if_neg (by rw [h1]; simp), if_neg h2]
theorem allP_short {s : Sl} (G : Good s) : (allP s).length ≤ 16 := by
  have h2 := occs_length s.ws 0 s.ks.length
  have h3 := allP_length s
  have h4 := G.ks
  unfold slotsL at h3
  omega
/-- Two runs put together. -/
def bothL : List (Int × Int) → List (Int × Int) → List (Int × Int)
  | [], b => b
  | a, [] => a
  | x :: a, y :: b => if x.1 < y.1 then x :: bothL a (y :: b) else if x.1 = y.1 then y :: bothL a b else y :: bothL (x :: a) b
termination_by a b => a.length + b.length
theorem bothL_nil1 (b : List (Int × Int)) : bothL [] b = b := by rw [bothL]
theorem bothL_nil2 (a : List (Int × Int)) : bothL a [] = a := by cases a <;> simp [bothL]
theorem bothL_cons (x y : Int × Int) (a b : List (Int × Int)) : bothL (x :: a) (y :: b) = if x.1 < y.1 then x :: bothL a (y :: b) else if x.1 = y.1 then y :: bothL a b else y :: bothL (x :: a) b := by rw [bothL]
theorem bothL_len : ∀ (n : Nat) (a b : List (Int × Int)), a.length + b.length ≤ n → (bothL a b).length ≤ a.length + b.length
  | n, [], b, _ => by rw [bothL_nil1]; simp
  | n, x :: a, [], _ => by rw [bothL_nil2]; simp
  | 0, x :: a, y :: b, h => by simp at h
  | n + 1, x :: a, y :: b, h => by
    rw [bothL_cons]
    simp only [List.length_cons] at h ⊢
    split
    · have := bothL_len n a (y :: b) (by simp; omega); simp only [List.length_cons] at this ⊢; omega
    · split
      · have := bothL_len n a b (by omega); simp only [List.length_cons]; omega
      · have := bothL_len n (x :: a) b (by simp; omega); simp only [List.length_cons] at this ⊢; omega
end Go.Proofs.Ytiemfklonhlnnaa.Load

namespace Go.Proofs.Ytiemfklonhlnnaa.Load
open Go.RowKit Go.Shelf Go.Sort Go.Proofs.Ytiemfklonhlnnaa Go.Proofs.Ytiemfklonhlnnaa.Occ Go.Proofs.Ytiemfklonhlnnaa.Slo Go.Proofs.Ytiemfklonhlnnaa.Seek Go.Proofs.Ytiemfklonhlnnaa.Lay

def mE : Sl := (newSV 4 16).1
def mL (ps : List (Int × Int)) : Sl := (intoSV mE 16 ps).1
theorem mE_new : newSV 4 16 = (mE, 0) := by decide +kernel
theorem mE_good : Good mE := good_of (by decide +kernel)
def nine : List (Int × Int) := [(0, 0), (1, 0), (2, 0), (3, 0), (4, 0), (5, 0), (6, 0), (7, 0), (8, 0)]
def eight : List (Int × Int) := [(0, 0), (1, 0), (2, 0), (3, 0), (4, 0), (5, 0), (6, 0), (7, 0)]
def sA : Sl := mL [(1, 10), (3, 30)]
def sB : Sl := mL [(2, 20), (3, 31)]
def sM : Sl := (intoSV sA 16 [(1, 10), (2, 20), (3, 31)]).1
def sX : Sl := (intoSV sM 16 [(1, 10)]).1
def sm : Sl := mL [(1, 0), (2, 0)]
def sx : Sl := (intoSV sm 16 [(1, 0), (2, 0)]).1
def sz : Sl := (intoSV sm 16 eight).1
def s9 : Sl := mL [(9, 0)]
theorem sA_good : Good sA := good_of (by decide +kernel)
theorem sB_good : Good sB := good_of (by decide +kernel)
theorem sM_good : Good sM := good_of (by decide +kernel)
theorem sX_good : Good sX := good_of (by decide +kernel)
theorem sm_good : Good sm := good_of (by decide +kernel)
theorem sx_good : Good sx := good_of (by decide +kernel)
theorem sz_good : Good sz := good_of (by decide +kernel)
theorem s9_good : Good s9 := good_of (by decide +kernel)
theorem sA_all : allP sA = [(1, 10), (3, 30)] := by decide +kernel
theorem sB_all : allP sB = [(2, 20), (3, 31)] := by decide +kernel
theorem sM_all : allP sM = [(1, 10), (2, 20), (3, 31)] := by decide +kernel
theorem sX_all : allP sX = [(1, 10)] := by decide +kernel
theorem sm_all : allP sm = [(1, 0), (2, 0)] := by decide +kernel
theorem sx_all : allP sx = [(1, 0), (2, 0)] := by decide +kernel
theorem sz_all : allP sz = eight := by decide +kernel
theorem s9_all : allP s9 = [(9, 0)] := by decide +kernel
theorem sx_laid : sx.laid = 4 := by decide +kernel
theorem sz_laid : sz.laid = 10 := by decide +kernel
theorem AB_both : bothL (allP sA) (allP sB) = [(1, 10), (2, 20), (3, 31)] := by rw [sA_all, sB_all]; simp [bothL_cons, bothL_nil1, bothL_nil2]
theorem z9_both : bothL (allP sz) (allP s9) = nine.set 8 (9, 0) := by rw [sz_all, s9_all]; simp [eight, nine, bothL_cons, bothL_nil1, bothL_nil2]
end Go.Proofs.Ytiemfklonhlnnaa.Load
