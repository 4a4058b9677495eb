/- Regions that draw their order, whose callees only make memory. A region that draws its order: what reads is taken first, as long as what it reads stands; the rest comes in its forced order. No program in sight. Gapped arrays: plain. Gapped arrays: plain: what is taken and laid. -/
import Derived.Test.YtiemfklonhlnnaaMac
import Derived.Lib.QuietBelow
import Derived.BigQuiet
import Derived.StillTailTactics
import Derived.OrdersHeld
import Derived.StillTail
import Derived.Deep.Quiet
set_option linter.unusedSimpArgs false
set_option linter.unusedVariables false
namespace Go.Proofs.Ytiemfklonhlnnaa
open Go.RowKit Go.Sort

/-- A region that draws its order, whose operations only read and whose callees only make memory; the world under a name. -/
theorem region_qb' {P : Program} {id : Nat} {Q : Exit → Act → World → Prop} {a : Act} {w : World} {l : List Oper} (w0 : World) (n : Nat) (hb : Below n w0 w) (hm : P.follows .mixedOrders = true) (hB : Region.lexB .any l.toArray = true)
    (h : ∀ w5, Below n w0 w5 → w.heap.size ≤ w5.heap.size → wpQuiet P l.toArray (fun w' => ∃ p : Regrown, w' = grow (redrawn w5 p.d) p.os) (fun a' => ∀ w', (∃ p : Regrown, w' = grow (redrawn w5 p.d) p.os) → Q .normal a' w') l a) : (Code.region id l.toArray true).wp P Q a w :=
  wp_region_quiet_below hm hB (h w hb (Nat.le_refl _))
/-- A region that draws its order: what only reads comes first, the rest in its forced order. -/
theorem region_tail {P : Program} {id : Nat} {Q : Exit → Act → World → Prop} {a : Act} {w : World} {l : List Oper} (n : Nat) (hm : P.follows .mixedOrders = true) (hB : Region.lexTailB .any l.toArray n = true)
    (h : wpStill P l.toArray w.drew (fun a' => wpList P l.toArray Q (l.drop n) a' w.drew) (l.take n) a) : (Code.region id l.toArray true).wp P Q a w := wp_region_still_tail n hm hB h
/-- Operations whose guards say no, one behind the other. -/
def skipB (ops : Array Oper) : List Oper → Act → Bool
  | [], _ => true
  | o :: r, a => !(Region.wanted o (yielded ops a.tmps)) && skipB ops r (a.put o.dst undef)
def putAll : List Oper → Act → Act
  | [], a => a
  | o :: r, a => putAll r (a.put o.dst undef)
theorem still_skips {P : Program} {ops : Array Oper} {w : World} {Q : Act → Prop} : ∀ (l : List Oper) (a : Act), skipB ops l a = true → Q (putAll l a) → wpStill P ops w Q l a
  | [], _, _, h => h
  | o :: r, a, hs, h => by
    simp only [skipB, Bool.and_eq_true, Bool.not_eq_true'] at hs
    unfold wpStill
    rw [if_neg (by rw [hs.1]; exact Bool.false_ne_true)]
    exact still_skips r _ hs.2 h
/-- What lies below stays, in every world of the class. -/
theorem Below.regrown {n : Nat} {w0 w5 : World} (h : Below n w0 w5) (hn : n ≤ w5.heap.size) (d : Nat) (os : Array Obj) : Below n w0 (grow (redrawn w5 d) os) := h.trans ((below_regrown w5 d os).mono hn)
/-- A callee that leaves the world as it is. -/
theorem same_below {P : Program} {f : FuncId} {args : Array Value} {w : World} {v : Value} (h : Calls P f args w fun e w' => e = .returned v ∧ w = w') : Calls P f args w fun e w' => e = .returned v ∧ Below w.heap.size w w' := h.mono fun _ _ h => ⟨h.1, h.2 ▸ Below.refl _ _⟩
end Go.Proofs.Ytiemfklonhlnnaa

namespace Go.Proofs.Ytiemfklonhlnnaa.Mix
open Go

def pureKind (o : Oper) : Bool := match o.op with
  | .move _ | .assign _ | .pick _ _ _ | .load _ _ | .binOp _ _ _ _ _ | .unOp _ _ _ | .fieldAddr _ _ _ | .field _ _ _ | .indexAddr _ _ _ | .index _ _ _ | .extract _ _ | .convert _ _ _ | .build _ _ | .nilCheck _ => true
  | _ => false

theorem then_value {α : Type} {r : Result α} {f : α → Value} {n : Next} {w' : World} (h : (Result.andThen r fun a w' => Result.ok (Next.value (f a)) w') = .ok n w') : ∃ u, n = .value u := by
  cases r with
  | ok v w => simp only [Result.andThen, Result.ok.injEq] at h; exact ⟨_, h.1.symm⟩
  | halt x w => simp only [Result.andThen] at h; cases h
theorem then_then {α : Type} {r : Result α} {g : α → World → Result Value} {n : Next} {w' : World} (h : (Result.andThen r fun a w => Result.andThen (g a w) fun b w' => Result.ok (Next.value b) w') = .ok n w') : ∃ u, n = .value u := by
  cases r with
  | ok v w => simp only [Result.andThen] at h; exact then_value (f := id) h
  | halt x w => simp only [Result.andThen] at h; cases h

theorem no_nil {P : Program} {w w' : World} {n : Next} (hr : (runtimePanic (α := Next) RuntimeError.nilDeref).run P w = .ok n w') : False := by
  simp [runtimePanic, goPanic, go_sem] at hr
theorem ahead_value {w' : World} {n : Next} {r : Result (Option Bool)} {v : Value} {X : World → Result Next} (hX : ∀ w n w', X w ≠ .ok n w')
    (hr : (r.andThen fun a w => if a = some false then Result.ok (Next.value v) w else X w) = .ok n w') : ∃ u, n = .value u := by
  cases r with
  | halt x w => simp only [Result.andThen] at hr; cases hr
  | ok a w1 =>
    simp only [Result.andThen] at hr
    split at hr
    · cases hr; exact ⟨_, rfl⟩
    · exact absurd hr (hX _ _ _)
theorem nil_value {P : Program} {ρ : Operand → Value} {x : Operand} {t : Option Tmp} {ty : TypeId} {ps : String} {af : Array Edge} {gd : Option (Nat × Bool)} {w w' : World} {n : Next}
    (hr : (execOp ρ ⟨t, .nilCheck x, ty, ps, af, gd⟩).run P w = .ok n w') : ∃ u, n = .value u := by
  simp only [execOp] at hr
  generalize ρ x = v at hr
  cases v <;> first
    | exact (no_nil hr).elim
    | (simp at hr; exact ⟨_, hr.1.symm⟩)
    | skip
  case pointer a =>
    cases a
    · exact (no_nil hr).elim
    · simp at hr; exact ⟨_, hr.1.symm⟩
  case func f first cap =>
    cases f <;> first
      | (simp at hr; exact ⟨_, hr.1.symm⟩)
      | skip
    case method name =>
      simp only [] at hr
      split at hr
      · exact (no_nil hr).elim
      · simp at hr
        exact ahead_value (fun w n w' h => by simp [unsupported, go_sem, Result.andThen] at h) hr
      · simp at hr; exact ⟨_, hr.1.symm⟩
theorem pure_value {P : Program} {ρ : Operand → Value} {o : Oper} (h : pureKind o = true) {w w' : World} {n : Next} (hr : (execOp ρ o).run P w = .ok n w') : ∃ u, n = .value u := by
  unfold pureKind at h
  unfold execOp at hr
  revert h hr
  cases o.op <;> intro h hr <;> first
    | (cases h; done)
    | exact nil_value (t := Option.none) (ty := 0) (ps := "") (af := #[]) (gd := Option.none) hr
    | (simp only [] at hr; simp at hr; exact then_value (f := id) hr)
    | (simp only [] at hr; simp at hr; exact then_value hr)
    | (simp only [] at hr; simp at hr; exact then_then hr)
    | (simp at hr; exact ⟨_, hr.1.symm⟩)
    | (simp only [] at hr; split at hr <;> simp at hr <;> first | exact ⟨_, hr.1.symm⟩ | skip)
    | (simp only [] at hr; simp at hr; trace_state; skip)

section
variable {P : Program} {ops : Array Oper} {Q : Exit → Act → World → Prop} {md : Region.Mode} {S : World → Prop} {C : Nat → Bool}

/-- A store that may have been made. -/
def maySet (w : World) (q : Addr) : Option Value → World
  | Option.none => w
  | some u => w.setCell q u
theorem maySet_cell {w : World} {q b : Addr} {v : Value} (h : w.cell? b = some v) (hq : q ≠ b) : ∀ o, (maySet w q o).cell? b = some v
  | Option.none => h
  | some u => (World.cell?_setCell_other w q b u hq).trans h
theorem maySet_frozen {w : World} {q b : Addr} {f : Bool} (h : w.frozen? b = f) : ∀ o, (maySet w q o).frozen? b = f
  | Option.none => h
  | some u => by unfold maySet; rw [World.frozen?_setCell]; exact h
/-- What has come up has come behind what it waits for. -/
structure Cl (md : Region.Mode) (ops : Array Oper) (listed : Array Bool) : Prop where
  size : listed.size = ops.size
  closed : ∀ j oj, ops[j]? = some oj → listed.getD j false = true → ∀ e ∈ oj.after, Region.binds md e = true → listed.getD e.on false = true

theorem Cl.set {i : Nat} {listed : Array Bool} (inv : Cl md ops listed) (hi : i ∈ Region.ready md ops listed) : Cl md ops (listed.setIfInBounds i true) := by
  obtain ⟨_, oi, hoi, hall⟩ := mem_ready.1 hi
  refine ⟨by simp [inv.size], fun j oj hj hl e he hb => ?_⟩
  by_cases hij : i = j
  · subst hij
    have : oj = oi := Option.some.inj (hj.symm.trans hoi)
    subst this
    exact getD_set_true (hall e he hb)
  · rw [getD_set_ne false hij] at hl
    exact getD_set_true (inv.closed j oj hj hl e he hb)

/-- Does c wait for i, by way of others? -/
def depB (md : Region.Mode) (ops : Array Oper) : Nat → Nat → Nat → Bool
  | 0, _, _ => false
  | f + 1, c, i => (List.range ops.size).any fun j => Region.waitsFor md ops c j && (j == i || depB md ops f j i)

theorem dep_listed : ∀ (f c i : Nat), depB md ops f c i = true → ∀ listed, Cl md ops listed → (c ∈ Region.ready md ops listed ∨ listed.getD c false = true) → listed.getD i false = true
  | 0, _, _, h, _, _, _ => by cases h
  | f + 1, c, i, h, listed, hcl, hc => by
    unfold depB at h
    obtain ⟨j, _, hj⟩ := List.any_eq_true.1 h
    simp only [Bool.and_eq_true, Bool.or_eq_true, beq_iff_eq] at hj
    obtain ⟨oc, hoc, e, he, hb, hon⟩ := Region.waitsFor_spec hj.1
    have hlj : listed.getD j false = true := by
      rw [← hon]
      rcases hc with hc | hc
      · obtain ⟨_, oc', hoc', hall⟩ := mem_ready.1 hc
        have : oc = oc' := Option.some.inj (hoc.symm.trans hoc')
        subst this
        exact hall e he hb
      · exact hcl.closed c oc hoc hc e he hb
    rcases hj.2 with h2 | h2
    · rw [← h2]; exact hlj
    · exact dep_listed f j i h2 listed hcl (.inr hlj)

/-- One of C has come up. -/
def Gone (C : Nat → Bool) (listed : Array Bool) : Prop := ∃ c, C c = true ∧ listed.getD c false = true
theorem Gone.unset {i : Nat} {listed : Array Bool} (h : Gone C (listed.setIfInBounds i true)) (hi : C i = false) : Gone C listed := by
  obtain ⟨c, h1, h2⟩ := h
  have hne : i ≠ c := by rintro rfl; rw [hi] at h1; cases h1
  rw [getD_set_ne false hne] at h2
  exact ⟨c, h1, h2⟩
theorem getD_set_self {j : Nat} {listed : Array Bool} (hj : j ∈ Region.ready md ops listed) (hcl : Cl md ops listed) : (listed.setIfInBounds j true).getD j false = true := by
  obtain ⟨_, o, ho, _⟩ := mem_ready.1 hj
  have : j < listed.size := by rw [hcl.size]; exact (Array.getElem?_eq_some_iff.1 ho).1
  simp [this]
/-- Whatever order is picked; S holds behind each operation that comes ahead of those of C. -/
def wpAnyM (P : Program) (md : Region.Mode) (ops : Array Oper) (Q : Exit → Act → World → Prop) (S : World → Prop) (C : Nat → Bool) : Nat → Array Bool → Act → World → Prop
  | 0, listed, a, w => Region.ready md ops listed = [] ∧ Q .normal a w
  | fuel + 1, listed, a, w =>
    (Region.ready md ops listed = [] → Q .normal a w) ∧
    ∀ i ∈ Region.ready md ops listed, wpOp P ops Q i (fun a' w' => (Gone C listed ∨ C i = true ∨ S w') ∧ wpAnyM P md ops Q S C fuel (listed.setIfInBounds i true) a' w') a w

theorem wpAny_of_M : ∀ (fuel : Nat) (listed : Array Bool) (a : Act) (w : World), wpAnyM P md ops Q S C fuel listed a w → wpAny P md ops Q fuel listed a w
  | 0, _, _, _, h => h
  | fuel + 1, _, _, _, h => ⟨h.1, fun i hi => wpOp_mono (fun a' w' h' => wpAny_of_M fuel _ a' w' h'.2) (h.2 i hi)⟩

theorem wpAnyM_first {i : Nat} {oi : Oper} {v : Value} (hi : ops[i]? = some oi) (hsel : ∀ (j : Nat) (o : Oper) cs b, ops[j]? = some o → o.op ≠ .select cs b)
    (hQ : ∀ c a w, Q (.panic c) (a.put oi.dst v) w → Q (.panic c) a w) (hic : C i = false)
    (hdep : ∀ listed, Cl md ops listed → (∃ c, C c = true ∧ (c ∈ Region.ready md ops listed ∨ listed.getD c false = true)) → listed.getD i false = true) :
    ∀ (fuel : Nat) (listed : Array Bool) (a : Act) (w : World), Cl md ops listed →
      (∀ j oj, ops[j]? = some oj → j ≠ i → listed.getD j true = false → (∀ e ∈ oj.after, Region.binds md e = true → e.on ≠ i) → oi.apart ops oj = true) →
      i ∈ Region.ready md ops listed → YieldsIf P ops S oi v a → S w →
      wpAnyM P md ops Q S C fuel (listed.setIfInBounds i true) (a.put oi.dst v) w → wpAnyM P md ops Q S C (fuel + 1) listed a w := by
  intro fuel
  induction fuel with
  | zero =>
    intro listed a w _ _ hr hy hS H
    refine ⟨fun h => (by rw [h] at hr; cases hr), fun j hj => ?_⟩
    by_cases hji : j = i
    · subst hji; exact hy.wpOp hi hS ⟨.inr (.inr hS), H⟩
    · have := ready_mono hj hji
      rw [H.1] at this
      cases this
  | succ fuel ih =>
    intro listed a w hcl hfree hr hy hS H
    have hun := getD_both (mem_ready.1 hr).1
    refine ⟨fun h => (by rw [h] at hr; cases hr), fun j hj => ?_⟩
    by_cases hji : j = i
    · subst hji; exact hy.wpOp hi hS ⟨.inr (.inr hS), H⟩
    · have h1 := H.2 j (ready_mono hj hji)
      obtain ⟨hjun, oj, hoj, hall⟩ := mem_ready.1 hj
      have hnot : ∀ e ∈ oj.after, Region.binds md e = true → e.on ≠ i := fun e he hb heq => by
        have h1 := hall e he hb
        rw [heq, hun] at h1
        cases h1
      have h2 := wpOp_putIf hoj (hfree j oj hoj hji hjun hnot) (fun cs b => hsel i oi cs b hi) (fun cs b => hsel j oj cs b hoj) hQ hy h1
      have hfree' : ∀ k ok, ops[k]? = some ok → k ≠ i → (listed.setIfInBounds j true).getD k true = false →
          (∀ e ∈ ok.after, Region.binds md e = true → e.on ≠ i) → oi.apart ops ok = true := fun k ok hk hki hun hno => by
        refine hfree k ok hk hki ?_ hno
        by_cases hjk : j = k
        · subst hjk; exact hjun
        · rw [getD_set_ne true hjk] at hun; exact hun
      refine wpOp_mono (fun a' w' h3 => ?_) h2
      have hSw : S w' := by
        rcases h3.2.1 with h | h | h
        · obtain ⟨c, h1, h2⟩ := h.unset hic
          have := hdep listed hcl ⟨c, h1, .inr h2⟩
          rw [hun] at this; cases this
        · have := hdep listed hcl ⟨j, h, .inl hj⟩
          rw [hun] at this; cases this
        · exact h
      refine ⟨.inr (.inr hSw), ih (listed.setIfInBounds j true) a' w' (hcl.set hj) hfree' (ready_mono hr (Ne.symm hji)) h3.1 hSw ?_⟩
      rw [Array.setIfInBounds_comm _ _ hji]
      exact h3.2.2

/-- .. that yields its value in whatever world. -/
theorem wpAnyM_free {i : Nat} {oi : Oper} {v : Value} (hi : ops[i]? = some oi) (hsel : ∀ (j : Nat) (o : Oper) cs b, ops[j]? = some o → o.op ≠ .select cs b)
    (hQ : ∀ c a w, Q (.panic c) (a.put oi.dst v) w → Q (.panic c) a w) (hic : C i = false) :
    ∀ (fuel : Nat) (listed : Array Bool) (a : Act) (w : World), Cl md ops listed →
      (∀ j oj, ops[j]? = some oj → j ≠ i → listed.getD j true = false → (∀ e ∈ oj.after, Region.binds md e = true → e.on ≠ i) → oi.apart ops oj = true) →
      i ∈ Region.ready md ops listed → YieldsIf P ops (fun _ => True) oi v a → (Gone C listed ∨ S w) →
      wpAnyM P md ops Q S C fuel (listed.setIfInBounds i true) (a.put oi.dst v) w → wpAnyM P md ops Q S C (fuel + 1) listed a w := by
  intro fuel
  induction fuel with
  | zero =>
    intro listed a w _ _ hr hy hS H
    refine ⟨fun h => (by rw [h] at hr; cases hr), fun j hj => ?_⟩
    by_cases hji : j = i
    · subst hji; exact hy.wpOp hi trivial ⟨hS.elim .inl fun h => .inr (.inr h), H⟩
    · have := ready_mono hj hji
      rw [H.1] at this
      cases this
  | succ fuel ih =>
    intro listed a w hcs hfree hr hy hS H
    have hun := getD_both (mem_ready.1 hr).1
    refine ⟨fun h => (by rw [h] at hr; cases hr), fun j hj => ?_⟩
    by_cases hji : j = i
    · subst hji; exact hy.wpOp hi trivial ⟨hS.elim .inl fun h => .inr (.inr h), H⟩
    · have h1 := H.2 j (ready_mono hj hji)
      obtain ⟨hjun, oj, hoj, hall⟩ := mem_ready.1 hj
      have hnot : ∀ e ∈ oj.after, Region.binds md e = true → e.on ≠ i := fun e he hb heq => by
        have h1 := hall e he hb
        rw [heq, hun] at h1
        cases h1
      have h2 := wpOp_putIf hoj (hfree j oj hoj hji hjun hnot) (fun cs b => hsel i oi cs b hi) (fun cs b => hsel j oj cs b hoj) hQ hy h1
      have hfree' : ∀ k ok, ops[k]? = some ok → k ≠ i → (listed.setIfInBounds j true).getD k true = false →
          (∀ e ∈ ok.after, Region.binds md e = true → e.on ≠ i) → oi.apart ops ok = true := fun k ok hk hki hun hno => by
        refine hfree k ok hk hki ?_ hno
        by_cases hjk : j = k
        · subst hjk; exact hjun
        · rw [getD_set_ne true hjk] at hun; exact hun
      refine wpOp_mono (fun a' w' h3 => ?_) h2
      have hd : Gone C listed ∨ C j = true ∨ S w' := h3.2.1.imp (fun h => h.unset hic) id
      refine ⟨hd, ih (listed.setIfInBounds j true) a' w' (hcs.set hj) hfree' (ready_mono hr (Ne.symm hji)) h3.1 ?_ ?_⟩
      · rcases hd with ⟨c, h1, h2⟩ | h | h
        · exact .inl ⟨c, h1, getD_set_true h2⟩
        · exact .inl ⟨j, h, getD_set_self hj hcs⟩
        · exact .inr h
      · rw [Array.setIfInBounds_comm _ _ hji]
        exact h3.2.2

theorem wpAnyM_one {i fuel : Nat} {listed : Array Bool} {a : Act} {w : World} (hr : Region.ready md ops listed = [i])
    (h : wpOp P ops Q i (fun a' w' => (Gone C listed ∨ C i = true ∨ S w') ∧ wpAnyM P md ops Q S C fuel (listed.setIfInBounds i true) a' w') a w) : wpAnyM P md ops Q S C (fuel + 1) listed a w := by
  refine ⟨fun h0 => (by rw [hr] at h0; cases h0), fun j hj => ?_⟩
  rw [hr] at hj
  have : j = i := by simpa using hj
  subst this
  exact h

/-- Those of a list that a row of signs names. -/
def maskL {α : Type} : List Bool → List α → List α
  | true :: m, x :: l => x :: maskL m l
  | false :: m, _ :: l => maskL m l
  | _, _ => []

def pureAt (ops : Array Oper) (k : Nat) : Bool := match ops[k]? with
  | some o => pureKind o
  | none => false

/-- May those that the signs name be taken first, one behind the other? -/
def takeB (md : Region.Mode) (ops : Array Oper) (cs : List Nat) (dep : Bool) : List Bool → Nat → Array Bool → Option (Array Bool)
  | [], _, listed => some listed
  | false :: m, k, listed => takeB md ops cs dep m (k + 1) listed
  | true :: m, k, listed =>
    if (Region.ready md ops listed).contains k && Region.free md ops listed k && pureAt ops k && !cs.contains k && (!dep || cs.all (fun c => depB md ops ops.size c k)) then takeB md ops cs dep m (k + 1) (listed.setIfInBounds k true) else none

theorem yields_of_quiet {S : World → Prop} {o : Oper} {a : Act} {K : Act → Prop} (hp : pureKind o = true) (hw : Region.wanted o (yielded ops a.tmps) = true) (h : o.quiet P a S K) : ∃ v, YieldsIf P ops S o v a ∧ K (a.put o.dst v) := by
  obtain ⟨v, h1, h2⟩ := h
  refine ⟨v, .inl ⟨hw, fun w hS => ?_⟩, h2⟩
  have h3 := h1 w hS
  unfold Oper.quietAt at h3
  generalize hr : (execOp a.eval o).run P w = r at *
  cases r with
  | ok n w' =>
    obtain ⟨u, rfl⟩ := pure_value hp hr
    simp only [Oper.quietUpon] at h3
    rw [h3.1, h3.2]
  | halt x w' => simp only [Oper.quietUpon] at h3

theorem hQ_all {d : Option Tmp} {v : Value} (hQ : ∀ c a (d : Tmp) v w, Q (.panic c) (Act.put a (some d) v) w → Q (.panic c) a w) : ∀ c a w, Q (.panic c) (Act.put a d v) w → Q (.panic c) a w := fun c a w h => by
  cases d with
  | none => exact h
  | some d => exact hQ c a d v w h
theorem take_dep {cs : List Nat} (hsel : Region.noSelect ops = true) (hQ : ∀ c a (d : Tmp) v w, Q (.panic c) (Act.put a (some d) v) w → Q (.panic c) a w) {fuel : Nat} {Lq : Act → Prop} {w : World} (hS : S w) :
    ∀ (m : List Bool) (l : List Oper) (k : Nat) (listed l2 : Array Bool) (a : Act), (∀ j, l[j]? = ops[k + j]?) → takeB md ops cs true m k listed = some l2 → Cl md ops listed →
    wpQuiet P ops S Lq (maskL m l) a → (∀ a', Cl md ops l2 → Lq a' → wpAnyM P md ops Q S (fun i => cs.contains i) fuel l2 a' w) → wpAnyM P md ops Q S (fun i => cs.contains i) (fuel + m.count true) listed a w
  | [], l, k, listed, l2, a, _, hB, hcl, h, hL => by
    simp only [takeB, Option.some.injEq] at hB
    subst hB
    cases l <;> exact hL a hcl h
  | false :: m, l, k, listed, l2, a, hl, hB, hcl, h, hL => by
    simp only [takeB] at hB
    cases l with
    | nil =>
      have := take_dep hsel hQ hS m [] (k + 1) listed l2 a (fun j => by have := hl (j + 1); simpa [Nat.add_assoc, Nat.add_comm 1 j] using this) hB hcl (by cases m with | nil => exact h | cons b m => cases b <;> exact h) hL
      simpa using this
    | cons o l =>
      have := take_dep hsel hQ hS m l (k + 1) listed l2 a (fun j => by have := hl (j + 1); simpa [Nat.add_assoc, Nat.add_comm 1 j] using this) hB hcl h hL
      simpa using this
  | true :: m, l, k, listed, l2, a, hl, hB, hcl, h, hL => by
    simp only [takeB] at hB
    split at hB
    · rename_i hc
      simp only [Bool.and_eq_true, Bool.not_eq_true', Bool.or_eq_true, Bool.not_true, Bool.false_eq_true, false_or] at hc
      obtain ⟨⟨⟨⟨hr, hf⟩, hp⟩, hne⟩, hd⟩ := hc
      cases l with
      | nil =>
        have h0 : ops[k]? = none := by simpa using (hl 0).symm
        simp [pureAt, h0] at hp
      | cons o l =>
        have h0 : ops[k]? = some o := by simpa using (hl 0).symm
        have hp' : pureKind o = true := by simpa [pureAt, h0] using hp
        have hr' : k ∈ Region.ready md ops listed := by simpa using hr
        have hl' : ∀ j, l[j]? = ops[k + 1 + j]? := fun j => by have := hl (j + 1); simpa [Nat.add_assoc, Nat.add_comm 1 j] using this
        have hstep : ∃ v, YieldsIf P ops S o v a ∧ wpQuiet P ops S Lq (maskL m l) (a.put o.dst v) := by
          have h' : wpQuiet P ops S Lq (o :: maskL m l) a := h
          simp only [wpQuiet] at h'
          split at h'
          · rename_i hw; exact yields_of_quiet hp' hw h'
          · rename_i hw; exact ⟨undef, .inr ⟨by simpa using hw, rfl⟩, h'⟩
        obtain ⟨v, hy, hK⟩ := hstep
        have := wpAnyM_first (C := fun i => cs.contains i) h0 (Region.noSelect_spec hsel) (hQ_all hQ) hne (fun listed hcl ⟨c, h1, h2⟩ => dep_listed _ _ _ (List.all_eq_true.1 hd c (by simpa using h1)) listed hcl h2) (fuel + m.count true) listed a w hcl (Region.free_spec h0 hf) hr' hy hS
          (take_dep hsel hQ hS m l (k + 1) _ l2 _ hl' hB (hcl.set hr') hK hL)
        simpa [Nat.add_assoc] using this
    · cases hB

theorem take_free {cs : List Nat} (hsel : Region.noSelect ops = true) (hQ : ∀ c a (d : Tmp) v w, Q (.panic c) (Act.put a (some d) v) w → Q (.panic c) a w) {fuel : Nat} {Lq : Act → Prop} {w : World} (hS : S w) :
    ∀ (m : List Bool) (l : List Oper) (k : Nat) (listed l2 : Array Bool) (a : Act), (∀ j, l[j]? = ops[k + j]?) → takeB md ops cs false m k listed = some l2 → Cl md ops listed →
    wpQuiet P ops (fun _ => True) Lq (maskL m l) a → (∀ a', Cl md ops l2 → Lq a' → wpAnyM P md ops Q S (fun i => cs.contains i) fuel l2 a' w) → wpAnyM P md ops Q S (fun i => cs.contains i) (fuel + m.count true) listed a w
  | [], l, k, listed, l2, a, _, hB, hcl, h, hL => by
    simp only [takeB, Option.some.injEq] at hB
    subst hB
    cases l <;> exact hL a hcl h
  | false :: m, l, k, listed, l2, a, hl, hB, hcl, h, hL => by
    simp only [takeB] at hB
    cases l with
    | nil =>
      have := take_free hsel hQ hS m [] (k + 1) listed l2 a (fun j => by have := hl (j + 1); simpa [Nat.add_assoc, Nat.add_comm 1 j] using this) hB hcl (by cases m with | nil => exact h | cons b m => cases b <;> exact h) hL
      simpa using this
    | cons o l =>
      have := take_free hsel hQ hS m l (k + 1) listed l2 a (fun j => by have := hl (j + 1); simpa [Nat.add_assoc, Nat.add_comm 1 j] using this) hB hcl h hL
      simpa using this
  | true :: m, l, k, listed, l2, a, hl, hB, hcl, h, hL => by
    simp only [takeB] at hB
    split at hB
    · rename_i hc
      simp only [Bool.and_eq_true, Bool.not_eq_true'] at hc
      obtain ⟨⟨⟨⟨hr, hf⟩, hp⟩, hne⟩, _⟩ := hc
      cases l with
      | nil =>
        have h0 : ops[k]? = none := by simpa using (hl 0).symm
        simp [pureAt, h0] at hp
      | cons o l =>
        have h0 : ops[k]? = some o := by simpa using (hl 0).symm
        have hp' : pureKind o = true := by simpa [pureAt, h0] using hp
        have hr' : k ∈ Region.ready md ops listed := by simpa using hr
        have hl' : ∀ j, l[j]? = ops[k + 1 + j]? := fun j => by have := hl (j + 1); simpa [Nat.add_assoc, Nat.add_comm 1 j] using this
        have hstep : ∃ v, YieldsIf P ops (fun _ => True) o v a ∧ wpQuiet P ops (fun _ => True) Lq (maskL m l) (a.put o.dst v) := by
          have h' : wpQuiet P ops (fun _ => True) Lq (o :: maskL m l) a := h
          simp only [wpQuiet] at h'
          split at h'
          · rename_i hw; exact yields_of_quiet hp' hw h'
          · rename_i hw; exact ⟨undef, .inr ⟨by simpa using hw, rfl⟩, h'⟩
        obtain ⟨v, hy, hK⟩ := hstep
        have := wpAnyM_free (C := fun i => cs.contains i) (S := S) h0 (Region.noSelect_spec hsel) (hQ_all hQ) hne (fuel + m.count true) listed a w hcl (Region.free_spec h0 hf) hr' hy (.inr hS)
          (take_free hsel hQ hS m l (k + 1) _ l2 _ hl' hB (hcl.set hr') hK hL)
        simpa [Nat.add_assoc] using this
    · cases hB

/-- What is left comes in a forced order. -/
def runB (md : Region.Mode) (ops : Array Oper) : List Bool → Nat → Array Bool → Option (Array Bool)
  | [], _, listed => some listed
  | false :: m, k, listed => runB md ops m (k + 1) listed
  | true :: m, k, listed => if decide (Region.ready md ops listed = [k]) then runB md ops m (k + 1) (listed.setIfInBounds k true) else none

/-- One operation behind the other, S holding behind each; then 'last'. -/
def wpListS (P : Program) (ops : Array Oper) (Q : Exit → Act → World → Prop) (S : World → Prop) (last : Act → World → Prop) : List Oper → Act → World → Prop
  | [], a, w => last a w
  | o :: r, a, w => wpList P ops (Exit.then (fun a' w' => S w' ∧ wpListS P ops Q S last r a' w') Q) [o] a w

theorem wpOp_of_list {k : Nat} {o : Oper} (h0 : ops[k]? = some o) {K : Act → World → Prop} {a : Act} {w : World} (h : wpList P ops (Exit.then K Q) [o] a w) : wpOp P ops Q k K a w := by
  unfold wpOp
  simp only [h0]
  simp only [wpList] at h
  split
  · rename_i hw
    simp only [hw, if_true] at h
    rcases h with h | ⟨h1, a1, w1, h2⟩
    · left
      unfold Oper.wp at *
      generalize (execOp a.eval o).run P w = r at *
      cases r with
      | ok n w' =>
        cases n <;> simp only [Oper.upon] at h ⊢
        case value u => exact h
        case skip => exact h
        case defer d => exact h
        case enter f args =>
          refine Calls.mono h fun e w'' he => ?_
          cases e with
          | returned u => exact he
          | panicked c => exact he
          | outgrown => obtain ⟨a2, w2, h3⟩ := he; exact ⟨a2, w2, h3⟩
        case row row args => exact Rows.mono h fun u w'' he => he
      | halt x w' =>
        cases x <;> simp only [Oper.upon] at h ⊢
        case panic u => exact h
    · exact .inr ⟨h1, a1, w1, h2⟩
  · rename_i hw
    simp only [hw] at h
    exact h

theorem run_held {fuel : Nat} {last : Act → World → Prop} :
    ∀ (m : List Bool) (l : List Oper) (k : Nat) (listed l2 : Array Bool) (a : Act) (w : World), S w → (∀ j, l[j]? = ops[k + j]?) → runB md ops m k listed = some l2 →
    wpListS P ops Q S last (maskL m l) a w → (∀ a' w', S w' → last a' w' → wpAnyM P md ops Q S C fuel l2 a' w') → wpAnyM P md ops Q S C (fuel + m.count true) listed a w
  | [], l, k, listed, l2, a, w, hS, _, hB, h, hL => by
    simp only [runB, Option.some.injEq] at hB
    subst hB
    cases l <;> exact hL a w hS h
  | false :: m, l, k, listed, l2, a, w, hS, hl, hB, h, hL => by
    simp only [runB] at hB
    cases l with
    | nil =>
      have := run_held m [] (k + 1) listed l2 a w hS (fun j => by have := hl (j + 1); simpa [Nat.add_assoc, Nat.add_comm 1 j] using this) hB (by cases m with | nil => exact h | cons b m => cases b <;> exact h) hL
      simpa using this
    | cons o l =>
      have := run_held m l (k + 1) listed l2 a w hS (fun j => by have := hl (j + 1); simpa [Nat.add_assoc, Nat.add_comm 1 j] using this) hB h hL
      simpa using this
  | true :: m, l, k, listed, l2, a, w, _, hl, hB, h, hL => by
    simp only [runB] at hB
    split at hB
    · rename_i hr
      have hr' : Region.ready md ops listed = [k] := by simpa using hr
      cases l with
      | nil =>
        have h0 : ops[k]? = none := by simpa using (hl 0).symm
        have : k ∈ Region.ready md ops listed := by rw [hr']; exact List.mem_singleton.2 rfl
        obtain ⟨_, o, ho, _⟩ := mem_ready.1 this
        rw [h0] at ho; cases ho
      | cons o l =>
        have h0 : ops[k]? = some o := by simpa using (hl 0).symm
        have hl' : ∀ j, l[j]? = ops[k + 1 + j]? := fun j => by have := hl (j + 1); simpa [Nat.add_assoc, Nat.add_comm 1 j] using this
        have h1 : wpOp P ops Q k (fun a' w' => S w' ∧ wpListS P ops Q S last (maskL m l) a' w') a w := wpOp_of_list h0 h
        have := wpAnyM_one (C := C) (S := S) (fuel := fuel + m.count true) hr' (wpOp_mono (fun a' w' h2 => ⟨.inr (.inr h2.1), run_held m l (k + 1) _ l2 a' w' h2.1 hl' hB h2.2 hL⟩) h1)
        simpa [Nat.add_assoc] using this
    · cases hB

/-- Two that may come up: whichever does. -/
theorem wpAny_fork {fuel i j : Nat} {oi oj : Oper} {listed : Array Bool} {a : Act} {w : World} (hr : Region.ready md ops listed = [i, j]) (hi : ops[i]? = some oi) (hj : ops[j]? = some oj)
    (h1 : wpList P ops (Exit.then (wpAny P md ops Q fuel (listed.setIfInBounds i true)) Q) [oi] a w) (h2 : wpList P ops (Exit.then (wpAny P md ops Q fuel (listed.setIfInBounds j true)) Q) [oj] a w) : wpAny P md ops Q (fuel + 1) listed a w := by
  refine ⟨fun h0 => (by rw [hr] at h0; cases h0), fun k hk => ?_⟩
  rw [hr] at hk
  have : k = i ∨ k = j := by simpa using hk
  rcases this with rfl | rfl
  · exact wpOp_of_list hi h1
  · exact wpOp_of_list hj h2
/-- The one that may come up. -/
theorem wpAny_one {fuel i : Nat} {oi : Oper} {listed : Array Bool} {a : Act} {w : World} (hr : Region.ready md ops listed = [i]) (hi : ops[i]? = some oi)
    (h1 : wpList P ops (Exit.then (wpAny P md ops Q fuel (listed.setIfInBounds i true)) Q) [oi] a w) : wpAny P md ops Q (fuel + 1) listed a w := by
  refine ⟨fun h0 => (by rw [hr] at h0; cases h0), fun k hk => ?_⟩
  rw [hr] at hk
  have : k = i := by simpa using hk
  subst this
  exact wpOp_of_list hi h1
theorem wpAny_none {listed : Array Bool} {a : Act} {w : World} (hr : Region.ready md ops listed = []) (h : Q .normal a w) : wpAny P md ops Q 0 listed a w := ⟨hr, h⟩
/-- All that is left comes in a forced order. -/
theorem wpAny_list : ∀ (m : List Bool) (l : List Oper) (k : Nat) (listed : Array Bool) (a : Act) (w : World), (∀ j, l[j]? = ops[k + j]?) → (∃ l2, runB md ops m k listed = some l2 ∧ Region.ready md ops l2 = []) →
    wpList P ops Q (maskL m l) a w → wpAny P md ops Q (m.count true) listed a w
  | [], l, k, listed, a, w, _, ⟨l2, hB, hr⟩, h => by
    simp only [runB, Option.some.injEq] at hB
    subst hB
    exact ⟨hr, by cases l <;> exact h⟩
  | false :: m, l, k, listed, a, w, hl, ⟨l2, hB, hr⟩, h => by
    simp only [runB] at hB
    cases l with
    | nil =>
      have := wpAny_list m [] (k + 1) listed a w (fun j => by have := hl (j + 1); simpa [Nat.add_assoc, Nat.add_comm 1 j] using this) ⟨l2, hB, hr⟩ (by cases m with | nil => exact h | cons b m => cases b <;> exact h)
      simpa using this
    | cons o l =>
      have := wpAny_list m l (k + 1) listed a w (fun j => by have := hl (j + 1); simpa [Nat.add_assoc, Nat.add_comm 1 j] using this) ⟨l2, hB, hr⟩ h
      simpa using this
  | true :: m, l, k, listed, a, w, hl, ⟨l2, hB, hr⟩, h => by
    simp only [runB] at hB
    split at hB
    · rename_i hr1
      have hr1 : Region.ready md ops listed = [k] := by simpa using hr1
      have hm : k ∈ Region.ready md ops listed := by rw [hr1]; exact List.mem_singleton.2 rfl
      cases l with
      | nil =>
        have h0 : ops[k]? = none := by simpa using (hl 0).symm
        obtain ⟨_, o, ho, _⟩ := mem_ready.1 hm
        rw [h0] at ho; cases ho
      | cons o l =>
        have h0 : ops[k]? = some o := by simpa using (hl 0).symm
        have hl' : ∀ j, l[j]? = ops[k + 1 + j]? := fun j => by have := hl (j + 1); simpa [Nat.add_assoc, Nat.add_comm 1 j] using this
        have h1 : wpOp P ops Q k (wpList P ops Q (maskL m l)) a w := by unfold wpOp; simp only [h0]; exact h
        have : wpAny P md ops Q (m.count true + 1) listed a w := by
          refine ⟨fun h0 => (by rw [hr1] at h0; cases h0), fun j hj => ?_⟩
          rw [hr1] at hj
          have : j = k := by simpa using hj
          subst this
          exact wpOp_mono (fun a' w' h2 => wpAny_list m l (j + 1) _ a' w' hl' ⟨l2, hB, hr⟩ h2) h1
        simpa using this
    · cases hB

/-- Behind the reads nothing is asked of the world: from where all that may come up belongs to C. -/
theorem M_of_wpAny : ∀ (fuel : Nat) (listed : Array Bool) (a : Act) (w : World), Cl md ops listed → (Gone C listed ∨ ∀ i ∈ Region.ready md ops listed, C i = true) → wpAny P md ops Q fuel listed a w → wpAnyM P md ops Q S C fuel listed a w
  | 0, _, _, _, _, _, h => h
  | fuel + 1, listed, a, w, hcl, hg, h => ⟨h.1, fun i hi => wpOp_mono (fun a' w' h' => ⟨hg.elim .inl (fun g => .inr (.inl (g i hi))),
      M_of_wpAny fuel _ a' w' (hcl.set hi) (.inl (hg.elim (fun ⟨c, h1, h2⟩ => ⟨c, h1, getD_set_true h2⟩) (fun g => ⟨i, g i hi, getD_set_self hi hcl⟩))) h'⟩) (h.2 i hi)⟩

/-- A plan's steps: what is taken in whatever world; what is taken while S holds; what comes in a forced order. -/
inductive Ph where
  | free (m : List Bool)
  | dep (m : List Bool)
  | run (m : List Bool)
def Ph.count : Ph → Nat
  | .free m => m.count true
  | .dep m => m.count true
  | .run m => m.count true
def planB (md : Region.Mode) (ops : Array Oper) (cs : List Nat) : List Ph → Array Bool → Option (Array Bool)
  | [], listed => if (Region.ready md ops listed).all (fun i => cs.contains i) then some listed else none
  | .free m :: r, listed => (takeB md ops cs false m 0 listed).bind (planB md ops cs r)
  | .dep m :: r, listed => (takeB md ops cs true m 0 listed).bind (planB md ops cs r)
  | .run m :: r, listed => (runB md ops m 0 listed).bind (planB md ops cs r)
def planN : List Ph → Nat → Nat
  | [], n => n
  | p :: r, n => planN r n + p.count
def wpPlan (P : Program) (l : List Oper) (Q : Exit → Act → World → Prop) (S : World → Prop) (last : Act → World → Prop) : List Ph → Act → World → Prop
  | [], a, w => last a w
  | .free m :: r, a, w => wpQuiet P l.toArray (fun _ => True) (fun a' => wpPlan P l Q S last r a' w) (maskL m l) a
  | .dep m :: r, a, w => wpQuiet P l.toArray S (fun a' => wpPlan P l Q S last r a' w) (maskL m l) a
  | .run m :: r, a, w => wpListS P l.toArray Q S (fun a' w' => wpPlan P l Q S last r a' w') (maskL m l) a w

theorem run_cl : ∀ (m : List Bool) (k : Nat) (listed l2 : Array Bool), runB md ops m k listed = some l2 → Cl md ops listed → Cl md ops l2
  | [], _, _, _, h, hcl => by simp only [runB, Option.some.injEq] at h; subst h; exact hcl
  | false :: m, k, listed, l2, h, hcl => by simp only [runB] at h; exact run_cl m (k + 1) listed l2 h hcl
  | true :: m, k, listed, l2, h, hcl => by
    simp only [runB] at h
    split at h
    · rename_i hr
      have hr' : Region.ready md ops listed = [k] := by simpa using hr
      exact run_cl m (k + 1) _ l2 h (hcl.set (by rw [hr']; exact List.mem_singleton.2 rfl))
    · cases h

theorem take_cl (cs : List Nat) (dep : Bool) : ∀ (m : List Bool) (k : Nat) (listed l2 : Array Bool), takeB md ops cs dep m k listed = some l2 → Cl md ops listed → Cl md ops l2
  | [], _, _, _, h, hcl => by simp only [takeB, Option.some.injEq] at h; subst h; exact hcl
  | false :: m, k, listed, l2, h, hcl => by simp only [takeB] at h; exact take_cl cs dep m (k + 1) listed l2 h hcl
  | true :: m, k, listed, l2, h, hcl => by
    simp only [takeB] at h
    split at h
    · rename_i hc
      simp only [Bool.and_eq_true] at hc
      exact take_cl cs dep m (k + 1) _ l2 h (hcl.set (by simpa using hc.1.1.1.1))
    · cases h

theorem plan_sound {l : List Oper} {cs : List Nat} (hsel : Region.noSelect l.toArray = true) (hQ : ∀ c a (d : Tmp) v w, Q (.panic c) (Act.put a (some d) v) w → Q (.panic c) a w) {fuel : Nat} {l4 : Array Bool} :
    ∀ (p : List Ph) (listed : Array Bool) (a : Act) (w : World), planB .any l.toArray cs p listed = some l4 → Cl .any l.toArray listed → S w →
    wpPlan P l Q S (fun a' w' => wpAny P .any l.toArray Q fuel l4 a' w') p a w → wpAnyM P .any l.toArray Q S (fun i => cs.contains i) (planN p fuel) listed a w
  | [], listed, a, w, hB, hcl, hS, h => by
    unfold planB at hB
    split at hB
    · rename_i hall
      simp only [Option.some.injEq] at hB
      subst hB
      exact M_of_wpAny fuel listed a w hcl (.inr fun i hi => List.all_eq_true.1 hall i hi) h
    · cases hB
  | .free m :: r, listed, a, w, hB, hcl, hS, h => by
    obtain ⟨l2, h1, h2⟩ := Option.bind_eq_some_iff.1 hB
    exact take_free (cs := cs) hsel hQ hS m l 0 listed l2 a (fun j => by simp) h1 hcl h fun a' cl' g => plan_sound hsel hQ r l2 a' w h2 cl' hS g
  | .dep m :: r, listed, a, w, hB, hcl, hS, h => by
    obtain ⟨l2, h1, h2⟩ := Option.bind_eq_some_iff.1 hB
    exact take_dep (cs := cs) hsel hQ hS m l 0 listed l2 a (fun j => by simp) h1 hcl h fun a' cl' g => plan_sound hsel hQ r l2 a' w h2 cl' hS g
  | .run m :: r, listed, a, w, hB, hcl, hS, h => by
    obtain ⟨l2, h1, h2⟩ := Option.bind_eq_some_iff.1 hB
    exact run_held (C := fun i => cs.contains i) m l 0 listed l2 a w hS (fun j => by simp) h1 h fun a' w' hS' g => plan_sound hsel hQ r l2 a' w' h2 (run_cl _ _ _ _ h1 hcl) hS' g

/-- A region that draws its order, by a plan; S is shown as long as a read may still come. -/
theorem wp_region_plan {id : Nat} {l : List Oper} {a : Act} {w : World} (S : World → Prop) (cs : List Nat) (p : List Ph) (l4 : Array Bool) (fuel : Nat) (hm : P.follows .mixedOrders = true) (hsel : Region.noSelect l.toArray = true) (hB : planB .any l.toArray cs p (Array.replicate l.toArray.size false) = some l4)
    (hsum : decide (planN p fuel = l.toArray.size) = true)
    (hQ : ∀ c a (d : Tmp) v w, Q (.panic c) (Act.put a (some d) v) w → Q (.panic c) a w) (hS : S w.drew)
    (h : wpPlan P l Q S (fun a4 w4 => wpAny P .any l.toArray Q fuel l4 a4 w4) p a w.drew) :
    (Code.region id l.toArray true).wp P Q a w := by
  have cl0 : Cl .any l.toArray (Array.replicate l.toArray.size false) := ⟨by simp, fun j oj _ hl => (by rw [getD_replicate_false] at hl; cases hl)⟩
  have key := plan_sound hsel hQ p _ a _ hB cl0 hS h
  rw [of_decide_eq_true hsum] at key
  exact wp_region_any hm (wpAny_of_M (S := S) (C := fun i => cs.contains i) _ _ _ _ key)
/-- The end of a plan: what is left comes in a forced order. -/
theorem wpAny_tail {l : List Oper} {listed : Array Bool} {a : Act} {w : World} (m : List Bool) (l2 : Array Bool) (hB : runB md l.toArray m 0 listed = some l2) (hr : (Region.ready md l.toArray l2).isEmpty = true)
    (h : wpList P l.toArray Q (maskL m l) a w) : wpAny P md l.toArray Q (m.count true) listed a w :=
  wpAny_list m l 0 listed a w (fun j => by simp) ⟨l2, hB, by simpa using hr⟩ h
end
end Go.Proofs.Ytiemfklonhlnnaa.Mix

namespace Go.Proofs.Ytiemfklonhlnnaa.Slo
open Go.RowKit Go.Proofs.Ytiemfklonhlnnaa Go.Proofs.Ytiemfklonhlnnaa.Occ Go.Proofs.Ytiemfklonhlnnaa.Frac

/-- What a gapped array says. -/
structure Sl where
  seg : Int
  ws : List Int
  ks : List Int
  vs : List Int
  cs : List Int
  laid : Int
/-- Where its slices lie. -/
structure Hd where
  aw : Option Addr
  cw : Nat
  ak : Option Addr
  ck : Nat
  av : Option Addr
  cv : Nat
  ac : Option Addr
  cc : Nat
def sval (s : Sl) (h : Hd) : Value := .agg #[.int .i64 s.seg, .slice h.aw s.ws.length h.cw, .slice h.ak s.ks.length h.ck, .slice h.av s.vs.length h.cv, .slice h.ac s.cs.length h.cc, .int .u64 s.laid]
/-- Its numbers fit, and it is not too long. -/
structure Sl.Wf (s : Sl) : Prop where
  seg : (Lit.int .i64 s.seg).wf = true
  u : U64 s.ws
  laid : 0 ≤ s.laid ∧ s.laid < 18446744073709551616
  lw : s.ws.length ≤ 100000
  lk : s.ks.length ≤ 100000
  lv : s.vs.length ≤ 100000
  lc : s.cs.length ≤ 100000
/-- It can be read. -/
structure SRd (w : World) (s : Sl) (h : Hd) : Prop where
  fw : Rd .u64 w h.aw s.ws
  fk : Rd .i64 w h.ak s.ks
  fv : Rd .i64 w h.av s.vs
  fc : Rd .i64 w h.ac s.cs
theorem SRd.mono {w w1 : World} {s : Sl} {h : Hd} {n : Nat} (r : SRd w s h) (hb : Below n w w1) (hn : w.heap.size ≤ n) : SRd w1 s h := ⟨r.fw.mono hb hn, r.fk.mono hb hn, r.fv.mono hb hn, r.fc.mono hb hn⟩

/-- May a gapped array have so many slots? -/
def fitsB (g n : Int) : Bool := decide (4 ≤ g) && (decide (g ≤ 64) && (powB g && (decide (g ≤ n) && (decide (n ≤ 65536) && (decide (n % g = 0) && powB (n / g))))))
def blankB (s : Sl) : Bool := (List.range s.ks.length).all (fun i => occB s.ws i || (decide (s.ks.getD i 0 = 0) && decide (s.vs.getD i 0 = 0)))
def cntB (s : Sl) : Bool := (List.range s.cs.length).all (fun k => decide (s.cs.getD k 0 = ((occs s.ws (k * s.seg.toNat) s.seg.toNat).length : Int)))
def okS (s : Sl) : Bool := fitsB s.seg s.ks.length && (decide (s.vs.length = s.ks.length) && (mayB s.ws s.ks.length && (decide (s.cs.length = s.ks.length / s.seg.toNat) && (blankB s && cntB s))))
def chkS (s : Sl) : Int := if okS s = true then 0 else 8

theorem fitsB_iff {g n : Int} : fitsB g n = true ↔ 4 ≤ g ∧ g ≤ 64 ∧ powB g = true ∧ g ≤ n ∧ n ≤ 65536 ∧ n % g = 0 ∧ powB (n / g) = true := by
  unfold fitsB; simp only [Bool.and_eq_true, decide_eq_true_eq]
theorem blankB_iff {s : Sl} : blankB s = true ↔ ∀ i, i < s.ks.length → occB s.ws i = false → s.ks.getD i 0 = 0 ∧ s.vs.getD i 0 = 0 := by
  unfold blankB
  rw [List.all_eq_true]
  constructor
  · intro h i hi ho
    have := h i (List.mem_range.2 hi)
    rw [ho, Bool.false_or, Bool.and_eq_true, decide_eq_true_eq, decide_eq_true_eq] at this
    exact this
  · intro h i hi
    cases ho : occB s.ws i
    · obtain ⟨h1, h2⟩ := h i (List.mem_range.1 hi) ho
      rw [Bool.false_or, Bool.and_eq_true, decide_eq_true_eq, decide_eq_true_eq]
      exact ⟨h1, h2⟩
    · rfl
theorem cntB_iff {s : Sl} : cntB s = true ↔ ∀ k, k < s.cs.length → s.cs.getD k 0 = ((occs s.ws (k * s.seg.toNat) s.seg.toNat).length : Int) := by
  unfold cntB
  rw [List.all_eq_true]
  exact ⟨fun h k hk => by simpa using h k (List.mem_range.2 hk), fun h k hk => by simpa using h k (List.mem_range.1 hk)⟩
/-- What is known of one that may be: its segment as a number, how many segments. -/
structure Ok (s : Sl) (g q : Nat) : Prop where
  seg : s.seg = (g : Int)
  g4 : 4 ≤ g
  g64 : g ≤ 64
  pg : powB (g : Int) = true
  n : s.ks.length = q * g
  q1 : 1 ≤ q
  n1 : s.ks.length ≤ 65536
  pq : powB (q : Int) = true
  v : s.vs.length = s.ks.length
  w : s.ws.length = (s.ks.length + 63) / 64
  z : ∀ i, s.ks.length ≤ i → i < 64 * s.ws.length → occB s.ws i = false
  c : s.cs.length = q
  blank : ∀ i, i < s.ks.length → occB s.ws i = false → s.ks.getD i 0 = 0 ∧ s.vs.getD i 0 = 0
  cnt : ∀ k, k < q → s.cs.getD k 0 = ((occs s.ws (k * g) g).length : Int)
theorem fits_nat {g n : Nat} (h : fitsB (g : Int) (n : Int) = true) : 4 ≤ g ∧ g ≤ 64 ∧ n ≤ 65536 ∧ ∃ q, n = q * g ∧ 1 ≤ q ∧ n / g = q ∧ powB (g : Int) = true ∧ powB (q : Int) = true := by
  obtain ⟨h1, h2, h3, h4, h5, h6, h7⟩ := fitsB_iff.1 h
  have e1 : ((n % g : Nat) : Int) = (n : Int) % (g : Int) := by simp
  have e2 : ((n / g : Nat) : Int) = (n : Int) / (g : Int) := by simp
  have hm : n % g = 0 := by omega
  rw [← e2] at h7
  have hq := Nat.div_add_mod n g
  rw [hm, Nat.add_zero] at hq
  refine ⟨by omega, by omega, by omega, n / g, by rw [Nat.mul_comm]; exact hq.symm, ?_, rfl, h3, h7⟩
  exact Nat.div_pos (by omega) (by omega)
theorem fits_of {g q : Nat} (h1 : 4 ≤ g) (h2 : g ≤ 64) (h3 : powB (g : Int) = true) (h4 : 1 ≤ q) (h5 : q * g ≤ 65536) (h6 : powB (q : Int) = true) : fitsB (g : Int) ((q * g : Nat) : Int) = true := by
  rw [fitsB_iff]
  have e1 : (((q * g) % g : Nat) : Int) = ((q * g : Nat) : Int) % (g : Int) := by simp
  have e2 : (((q * g) / g : Nat) : Int) = ((q * g : Nat) : Int) / (g : Int) := by simp
  rw [← e1, ← e2, Nat.mul_mod_left, Nat.mul_div_cancel _ (by omega)]
  have : 1 * g ≤ q * g := Nat.mul_le_mul_right _ h4
  exact ⟨by omega, by omega, h3, by omega, by omega, rfl, h6⟩
theorem okS_iff {s : Sl} : okS s = true ↔ ∃ g q, Ok s g q := by
  unfold okS
  simp only [Bool.and_eq_true, decide_eq_true_eq]
  constructor
  · rintro ⟨hf, hv, hm, hc, hb, hn⟩
    obtain ⟨g, hg⟩ := Int.eq_ofNat_of_zero_le (show 0 ≤ s.seg by have := (fitsB_iff.1 hf).1; omega)
    rw [hg] at hf
    obtain ⟨h1, h2, h3, q, h4, h5, h6, h7, h8⟩ := fits_nat hf
    rw [hg, Int.toNat_natCast, h6] at hc
    obtain ⟨m1, m2⟩ := mayB_iff.1 hm
    refine ⟨g, q, hg, h1, h2, h7, h4, h5, h3, h8, hv, m1, m2, hc, blankB_iff.1 hb, fun k hk => ?_⟩
    have := cntB_iff.1 hn k (by omega)
    rwa [hg, Int.toNat_natCast] at this
  · rintro ⟨g, q, o⟩
    refine ⟨?_, o.v, mayB_iff.2 ⟨o.w, o.z⟩, ?_, blankB_iff.2 o.blank, cntB_iff.2 fun k hk => ?_⟩
    · rw [o.seg, o.n]; exact fits_of o.g4 o.g64 o.pg o.q1 (by have := o.n1; rw [o.n] at this; exact this) o.pq
    · rw [o.c, o.seg, Int.toNat_natCast, o.n, Nat.mul_div_cancel _ (by have := o.g4; omega)]
    · rw [o.seg, Int.toNat_natCast]; exact o.cnt k (by have := o.c; omega)

def sameB (s o : Sl) : Bool := decide (s.seg = o.seg) && (decide (s.laid = o.laid) && (decide (s.ws = o.ws) && (decide (s.ks = o.ks) && (decide (s.vs = o.vs) && decide (s.cs = o.cs)))))
theorem sameB_iff {s o : Sl} : sameB s o = true ↔ s = o := by
  unfold sameB
  simp only [Bool.and_eq_true, decide_eq_true_eq]
  obtain ⟨a, b, c, d, e, f⟩ := s
  obtain ⟨a2, b2, c2, d2, e2, f2⟩ := o
  constructor
  · rintro ⟨h1, h2, h3, h4, h5, h6⟩; dsimp only at *; subst h1 h2 h3 h4 h5 h6; rfl
  · intro h; cases h; exact ⟨rfl, rfl, rfl, rfl, rfl, rfl⟩
def greatB (s : Sl) (m : Int) : Bool := decide (m < s.ks.length) || (decide (m < s.vs.length) || (decide (m < s.ws.length) || decide (m < s.cs.length)))
end Go.Proofs.Ytiemfklonhlnnaa.Slo

namespace Go.Proofs.Ytiemfklonhlnnaa.Slo
open Go.RowKit Go.Proofs.Ytiemfklonhlnnaa Go.Proofs.Ytiemfklonhlnnaa.Occ Go.Proofs.Ytiemfklonhlnnaa.Frac

theorem getD_set (l : List Int) (i j : Nat) (x : Int) (hi : i < l.length) : (l.set i x).getD j 0 = if j = i then x else l.getD j 0 := by
  by_cases h : j = i
  · subst h; simp [List.getD_eq_getElem?_getD, hi]
  · rw [if_neg h]; simp only [List.getD_eq_getElem?_getD]; rw [List.getElem?_set_ne (by omega)]
theorem occs_congr {ws ws' : List Int} {f d : Nat} (h : ∀ t, f ≤ t → t < f + d → occB ws t = occB ws' t) : occs ws f d = occs ws' f d := by
  unfold occs
  apply List.filter_congr
  intro t ht
  rw [List.mem_range'_1] at ht
  exact h t ht.1 ht.2
theorem occs_one (ws : List Int) (a : Nat) : occs ws a 1 = if occB ws a = true then [a] else [] := by
  have := occs_succ ws a 0
  rw [Nat.add_zero] at this
  exact this
theorem occs_split (ws : List Int) (f d a : Nat) (h1 : f ≤ a) (h2 : a < f + d) : occs ws f d = occs ws f (a - f) ++ ((if occB ws a = true then [a] else []) ++ occs ws (a + 1) (f + d - (a + 1))) := by
  have e1 := occs_add ws f (a - f) (1 + (f + d - (a + 1)))
  have e2 := occs_add ws a 1 (f + d - (a + 1))
  rw [show a - f + (1 + (f + d - (a + 1))) = d by omega, show f + (a - f) = a by omega] at e1
  rw [e1, e2, occs_one]
section
variable {ws : List Int} (hu : U64 ws) (a : Nat) (ha : a < 64 * ws.length)
include hu ha
theorem occs_put_in (b : Bool) {f d : Nat} (h1 : f ≤ a) (h2 : a < f + d) : occs (putV ws a b) f d = occs ws f (a - f) ++ ((if b = true then [a] else []) ++ occs ws (a + 1) (f + d - (a + 1))) := by
  rw [occs_split (putV ws a b) f d a h1 h2, putV_occ hu a b ha, if_pos rfl]
  congr 1
  · exact occs_congr fun t h3 h4 => by rw [putV_occ hu a b ha, if_neg (by omega)]
  · congr 1
    exact occs_congr fun t h3 h4 => by rw [putV_occ hu a b ha, if_neg (by omega)]
theorem occs_put_out (b : Bool) {f d : Nat} (h : a < f ∨ f + d ≤ a) : occs (putV ws a b) f d = occs ws f d :=
  occs_congr fun t h3 h4 => by rw [putV_occ hu a b ha, if_neg (by omega)]
theorem occs_put_len (b : Bool) {f d : Nat} (h1 : f ≤ a) (h2 : a < f + d) : (occs (putV ws a b) f d).length + (if occB ws a = true then 1 else 0) = (occs ws f d).length + (if b = true then 1 else 0) := by
  rw [occs_put_in hu a ha b h1 h2, occs_split ws f d a h1 h2]
  cases b <;> cases occB ws a <;> simp <;> omega
end
theorem occs_pos {ws : List Int} {f d a : Nat} (h1 : f ≤ a) (h2 : a < f + d) (ho : occB ws a = true) : 1 ≤ (occs ws f d).length := by
  rw [occs_split ws f d a h1 h2, ho]; simp; omega

def takeV (s : Sl) (a : Nat) : Sl :=
  { s with ws := putV s.ws a false, ks := s.ks.set a 0, vs := s.vs.set a 0, cs := if occB s.ws a = true then s.cs.set (a / s.seg.toNat) (s.cs.getD (a / s.seg.toNat) 0 - 1) else s.cs }
def setV (s : Sl) (a : Nat) (x y : Int) : Sl :=
  { s with ws := putV s.ws a true, ks := s.ks.set a x, vs := s.vs.set a y, cs := s.cs.set (a / s.seg.toNat) (s.cs.getD (a / s.seg.toNat) 0 + 1), laid := IntKind.u64.wrap (s.laid + 1) }
def layV (s : Sl) (a : Nat) (x y : Int) : Sl := setV (takeV s a) a x y

/-- In which segment a slot lies. -/
theorem seg_of {g q n a : Nat} (hg : 4 ≤ g) (hn : n = q * g) (ha : a < n) : a / g < q ∧ a / g * g ≤ a ∧ a < a / g * g + g := by
  have h1 := Nat.div_add_mod a g
  have h2 := Nat.mod_lt a (show 0 < g by omega)
  rw [Nat.mul_comm] at h1
  refine ⟨?_, by omega, by omega⟩
  rw [Nat.div_lt_iff_lt_mul (by omega)]; omega
theorem seg_out {g a k : Nat} (hg : 4 ≤ g) (hk : k ≠ a / g) : a < k * g ∨ k * g + g ≤ a := by
  have h1 := Nat.div_add_mod a g
  have h2 := Nat.mod_lt a (show 0 < g by omega)
  rw [Nat.mul_comm] at h1
  rcases Nat.lt_or_ge k (a / g) with h | h
  · right
    have := Nat.mul_le_mul_right g (show k + 1 ≤ a / g from h)
    rw [Nat.succ_mul] at this; omega
  · left
    have := Nat.mul_le_mul_right g (show a / g + 1 ≤ k by omega)
    rw [Nat.succ_mul] at this; omega
theorem Ok.in {s : Sl} {g q a : Nat} (o : Ok s g q) (ha : a < s.ks.length) : a < 64 * s.ws.length := by have := o.w; omega
theorem Ok.take {s : Sl} {g q : Nat} (o : Ok s g q) (hu : U64 s.ws) {a : Nat} (ha : a < s.ks.length) : Ok (takeV s a) g q := by
  have hi := o.in ha
  obtain ⟨h1, h2, h3⟩ := seg_of o.g4 o.n ha
  have hsg : s.seg.toNat = g := by rw [o.seg]; simp
  refine ⟨o.seg, o.g4, o.g64, o.pg, ?_, o.q1, ?_, o.pq, ?_, ?_, ?_, ?_, ?_, ?_⟩
  · show (s.ks.set a 0).length = _; rw [List.length_set]; exact o.n
  · show (s.ks.set a 0).length ≤ _; rw [List.length_set]; exact o.n1
  · show (s.vs.set a 0).length = (s.ks.set a 0).length; rw [List.length_set, List.length_set]; exact o.v
  · show (putV s.ws a false).length = ((s.ks.set a 0).length + 63) / 64; rw [List.length_set, putV_length]; exact o.w
  · intro i h4 h5
    have h4 : s.ks.length ≤ i := by have : (s.ks.set a 0).length ≤ i := h4; rwa [List.length_set] at this
    have h5 : i < 64 * s.ws.length := by have : i < 64 * (putV s.ws a false).length := h5; rwa [putV_length] at this
    show occB (putV s.ws a false) i = false
    rw [putV_occ hu a false hi, if_neg (by omega)]; exact o.z i h4 h5
  · show (if occB s.ws a = true then s.cs.set _ _ else s.cs).length = q
    split
    · rw [List.length_set]; exact o.c
    · exact o.c
  · intro i h4 h5
    have h4 : i < s.ks.length := by have : i < (s.ks.set a 0).length := h4; rwa [List.length_set] at this
    have h5 : occB (putV s.ws a false) i = false := h5
    show (s.ks.set a 0).getD i 0 = 0 ∧ (s.vs.set a 0).getD i 0 = 0
    rw [getD_set _ _ _ _ ha, getD_set _ _ _ _ (by rw [o.v]; exact ha)]
    by_cases hia : i = a
    · rw [if_pos hia, if_pos hia]; exact ⟨rfl, rfl⟩
    · rw [if_neg hia, if_neg hia]
      rw [putV_occ hu a false hi, if_neg hia] at h5
      exact o.blank i h4 h5
  · intro k hk
    show (if occB s.ws a = true then s.cs.set (a / s.seg.toNat) (s.cs.getD (a / s.seg.toNat) 0 - 1) else s.cs).getD k 0 = ((occs (putV s.ws a false) (k * g) g).length : Int)
    rw [hsg]
    by_cases hka : k = a / g
    · subst hka
      have e1 := occs_put_len hu a hi false h2 h3
      have e2 := o.cnt (a / g) hk
      simp only [Bool.false_eq_true, if_false, Nat.add_zero] at e1
      by_cases ho : occB s.ws a = true
      · rw [if_pos ho, getD_set _ _ _ _ (by rw [o.c]; exact h1), if_pos rfl, e2]
        rw [if_pos ho] at e1; omega
      · rw [if_neg ho, e2]
        rw [if_neg ho] at e1; omega
    · rw [occs_put_out hu a hi false (seg_out o.g4 hka)]
      split
      · rw [getD_set _ _ _ _ (by rw [o.c]; exact h1), if_neg hka]; exact o.cnt k hk
      · exact o.cnt k hk
theorem Ok.set {s : Sl} {g q : Nat} (o : Ok s g q) (hu : U64 s.ws) {a : Nat} (ha : a < s.ks.length) (x y : Int) (hf : occB s.ws a = false) : Ok (setV s a x y) g q := by
  have hi := o.in ha
  obtain ⟨h1, h2, h3⟩ := seg_of o.g4 o.n ha
  have hsg : s.seg.toNat = g := by rw [o.seg]; simp
  refine ⟨o.seg, o.g4, o.g64, o.pg, ?_, o.q1, ?_, o.pq, ?_, ?_, ?_, ?_, ?_, ?_⟩
  · show (s.ks.set a x).length = _; rw [List.length_set]; exact o.n
  · show (s.ks.set a x).length ≤ _; rw [List.length_set]; exact o.n1
  · show (s.vs.set a y).length = (s.ks.set a x).length; rw [List.length_set, List.length_set]; exact o.v
  · show (putV s.ws a true).length = ((s.ks.set a x).length + 63) / 64; rw [List.length_set, putV_length]; exact o.w
  · intro i h4 h5
    have h4 : s.ks.length ≤ i := by have : (s.ks.set a x).length ≤ i := h4; rwa [List.length_set] at this
    have h5 : i < 64 * s.ws.length := by have : i < 64 * (putV s.ws a true).length := h5; rwa [putV_length] at this
    show occB (putV s.ws a true) i = false
    rw [putV_occ hu a true hi, if_neg (by omega)]; exact o.z i h4 h5
  · show (s.cs.set _ _).length = q
    rw [List.length_set]; exact o.c
  · intro i h4 h5
    have h4 : i < s.ks.length := by have : i < (s.ks.set a x).length := h4; rwa [List.length_set] at this
    have h5 : occB (putV s.ws a true) i = false := h5
    rw [putV_occ hu a true hi] at h5
    show (s.ks.set a x).getD i 0 = 0 ∧ (s.vs.set a y).getD i 0 = 0
    rw [getD_set _ _ _ _ ha, getD_set _ _ _ _ (by rw [o.v]; exact ha)]
    by_cases hia : i = a
    · rw [if_pos hia] at h5; cases h5
    · rw [if_neg hia, if_neg hia]
      rw [if_neg hia] at h5
      exact o.blank i h4 h5
  · intro k hk
    show (s.cs.set (a / s.seg.toNat) (s.cs.getD (a / s.seg.toNat) 0 + 1)).getD k 0 = ((occs (putV s.ws a true) (k * g) g).length : Int)
    rw [hsg, getD_set _ _ _ _ (by rw [o.c]; exact h1)]
    by_cases hka : k = a / g
    · subst hka
      have e1 := occs_put_len hu a hi true h2 h3
      have e2 := o.cnt (a / g) hk
      rw [hf] at e1
      simp only [Bool.false_eq_true, if_false, if_true, Nat.add_zero] at e1
      rw [if_pos rfl, e2, e1]; omega
    · rw [occs_put_out hu a hi true (seg_out o.g4 hka), if_neg hka]; exact o.cnt k hk
theorem take_u {s : Sl} (hu : U64 s.ws) (a : Nat) : U64 (takeV s a).ws := putV_u64 hu a false
theorem set_u {s : Sl} (hu : U64 s.ws) (a : Nat) (x y : Int) : U64 (setV s a x y).ws := putV_u64 hu a true
theorem take_len {s : Sl} (a : Nat) : (takeV s a).ks.length = s.ks.length := List.length_set
theorem set_len {s : Sl} (a : Nat) (x y : Int) : (setV s a x y).ks.length = s.ks.length := List.length_set
theorem take_occ {s : Sl} {g q : Nat} (o : Ok s g q) (hu : U64 s.ws) {a : Nat} (ha : a < s.ks.length) (i : Nat) : occB (takeV s a).ws i = if i = a then false else occB s.ws i := putV_occ hu a false (o.in ha) i
theorem set_occ {s : Sl} {g q : Nat} (o : Ok s g q) (hu : U64 s.ws) {a : Nat} (ha : a < s.ks.length) (x y : Int) (i : Nat) : occB (setV s a x y).ws i = if i = a then true else occB s.ws i := putV_occ hu a true (o.in ha) i
theorem Ok.lay {s : Sl} {g q : Nat} (o : Ok s g q) (hu : U64 s.ws) {a : Nat} (ha : a < s.ks.length) (x y : Int) : Ok (layV s a x y) g q :=
  (o.take hu ha).set (take_u hu a) (by rw [take_len]; exact ha) x y (by rw [take_occ o hu ha, if_pos rfl])
theorem Ok.ok {s : Sl} {g q : Nat} (o : Ok s g q) : okS s = true := okS_iff.2 ⟨g, q, o⟩
/-- A count of one that may be: not too great; and not none, where a slot is occupied. -/
theorem Ok.count {s : Sl} {g q : Nat} (o : Ok s g q) {a : Nat} (ha : a < s.ks.length) : 0 ≤ s.cs.getD (a / g) 0 ∧ s.cs.getD (a / g) 0 ≤ 64 ∧ (occB s.ws a = true → 1 ≤ s.cs.getD (a / g) 0) := by
  obtain ⟨h1, h2, h3⟩ := seg_of o.g4 o.n ha
  rw [o.cnt _ h1]
  have := occs_length s.ws (a / g * g) g
  have := o.g64
  exact ⟨by omega, by omega, fun ho => by have := occs_pos h2 h3 ho; omega⟩
/-- Its numbers fit still. -/
theorem Ok.wf {s : Sl} {g q : Nat} (o : Ok s g q) (hu : U64 s.ws) (hl : 0 ≤ s.laid ∧ s.laid < 18446744073709551616) : s.Wf := by
  have h1 := o.n1
  have h2 := o.w
  have h3 := o.v
  have h4 := o.g4
  have h5 := o.c
  have h6 := o.n
  have h7 : q ≤ q * g := Nat.le_mul_of_pos_right q (by omega)
  exact ⟨by rw [o.seg]; have := o.g64; simp [Lit.wf, IntKind.min, IntKind.max, IntKind.signed, IntKind.bits]; omega, hu, hl, by omega, by omega, by omega, by omega⟩
end Go.Proofs.Ytiemfklonhlnnaa.Slo
