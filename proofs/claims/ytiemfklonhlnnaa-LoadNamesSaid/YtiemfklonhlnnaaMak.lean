/- Operations of a region that come up in whatever order, each making what the others do not look at. No program in sight. A scope whose jumps all go forward, once. No program in sight. Package lay, in plain Lean: places that are spread are a part's. Contracts of package lay: over. Package lay, in plain Lean: an empty array may be. Contracts of package lay, and of the document's answer for it: Even, Into, Spread, Wide. -/
import Derived.Test.YtiemfklonhlnnaaMaj
import Derived.ScopeJumps
set_option linter.unusedSimpArgs false
set_option linter.unusedVariables false
namespace Go.Proofs.Ytiemfklonhlnnaa.Mix
open Go Go.RowKit

/-- An invariant between operations that come up in whatever order. -/
theorem wpAny_any {P : Program} {md : Region.Mode} {ops : Array Oper} {Q : Exit → Act → World → Prop} (I : List Nat → Act → World → Prop) (le : Array Bool) (fuel : Nat)
    (step : ∀ todo i a W, i ∈ todo → I todo a W → wpOp P ops Q i (fun a' W' => I (todo.erase i) a' W') a W)
    (tail : ∀ a W, I [] a W → wpAny P md ops Q fuel le a W) :
    ∀ (f : Nat) (todo : List Nat) (listed : Array Bool) (a : Act) (W : World), mkB md ops le f todo listed = true → todo.length = f → I todo a W → wpAny P md ops Q (fuel + f) listed a W
  | 0, todo, listed, a, W, hB, hl, hI => by
    have e : listed = le := of_decide_eq_true hB
    subst e
    rw [List.eq_nil_of_length_eq_zero hl] at hI
    exact tail a W hI
  | f + 1, todo, listed, a, W, hB, hl, hI => by
    simp only [mkB, Bool.and_eq_true, Bool.not_eq_true', List.isEmpty_eq_false_iff] at hB
    show wpAny P md ops Q ((fuel + f) + 1) listed a W
    refine ⟨fun h => absurd h hB.1, fun i hi => ?_⟩
    have h2 := List.all_eq_true.1 hB.2 i hi
    simp only [Bool.and_eq_true] at h2
    have hit : i ∈ todo := by simpa using h2.1
    exact wpOp_mono (fun a' W' h' => wpAny_any I le fuel step tail f (todo.erase i) _ a' W' h2.2 (by rw [List.length_erase_of_mem hit, hl]; rfl) h') (step todo i a W hit hI)

/-- Values put into their slots, as far as they are there. -/
def putL (a : Act) : List (Nat × Tmp) → (Nat → Option Value) → Act
  | [], _ => a
  | (i, d) :: r, B => match B i with
    | none => putL a r B
    | some v => (putL a r B).put (some d) v
def updV (B : Nat → Option Value) (i : Nat) (v : Value) : Nat → Option Value := fun j => if j = i then some v else B j
theorem putL_congr (a : Act) : ∀ (ds : List (Nat × Tmp)) (B B' : Nat → Option Value), (∀ p ∈ ds, B p.1 = B' p.1) → putL a ds B = putL a ds B'
  | [], _, _, _ => rfl
  | (i, d) :: r, B, B', h => by
    have h1 : B i = B' i := h (i, d) List.mem_cons_self
    have h2 := putL_congr a r B B' fun p hp => h p (List.mem_cons_of_mem _ hp)
    unfold putL
    rw [h1, h2]
theorem putL_none (a : Act) : ∀ ds : List (Nat × Tmp), putL a ds (fun _ => none) = a
  | [] => rfl
  | (i, d) :: r => by unfold putL; exact putL_none a r
theorem putL_upd (a : Act) : ∀ (ds : List (Nat × Tmp)) (B : Nat → Option Value) (i : Nat) (d : Tmp) (v : Value), (ds.map (·.1)).Nodup → (ds.map (·.2)).Nodup → (i, d) ∈ ds → (putL a ds B).put (some d) v = putL a ds (updV B i v)
  | [], _, _, _, _, _, _, h => by cases h
  | (j, e) :: r, B, i, d, v, h1, h2, h => by
    simp only [List.map_cons, List.nodup_cons] at h1 h2
    rcases List.mem_cons.1 h with h3 | h3
    · obtain ⟨rfl, rfl⟩ := Prod.mk.inj h3
      have e1 : putL a r (updV B i v) = putL a r B := putL_congr a r _ _ fun p hp => by
        unfold updV
        rw [if_neg]
        intro h4
        exact h1.1 (List.mem_map.2 ⟨p, hp, h4⟩)
      have e2 : updV B i v i = some v := by unfold updV; rw [if_pos rfl]
      unfold putL
      rw [e1, e2]
      cases B i with
      | none => rfl
      | some u => simp [Act.put]
    · have hj : j ≠ i := fun e => h1.1 (by rw [e]; exact List.mem_map.2 ⟨(i, d), h3, rfl⟩)
      have he : e ≠ d := fun e' => h2.1 (by rw [e']; exact List.mem_map.2 ⟨(i, d), h3, rfl⟩)
      have e1 := putL_upd a r B i d v h1.2 h2.2 h3
      have e2 : updV B i v j = B j := by unfold updV; rw [if_neg hj]
      unfold putL
      rw [e2, ← e1]
      cases B j with
      | none => rfl
      | some u => exact Act.put_comm _ u v fun d' hd' hd => by cases hd'; cases hd; exact he rfl
theorem putL_exec {ops : Array Oper} (o : Oper) (hs : ∀ cs b, o.op ≠ .select cs b) (a : Act) : ∀ (ds : List (Nat × Tmp)) (B : Nat → Option Value), (∀ q ∈ ds, q.2 ∉ o.looksAt ops) →
    execOp (putL a ds B).eval o = execOp a.eval o ∧ Region.wanted o (yielded ops (putL a ds B).tmps) = Region.wanted o (yielded ops a.tmps)
  | [], _, _ => ⟨rfl, rfl⟩
  | (j, e) :: r, B, h => by
    obtain ⟨h1, h2⟩ := putL_exec o hs a r B fun q hq => h q (List.mem_cons_of_mem _ hq)
    have h3 : ∀ d, some e = some d → d ∉ o.looksAt ops := fun d hd => by cases hd; exact h (j, e) List.mem_cons_self
    unfold putL
    cases B j with
    | none => exact ⟨h1, h2⟩
    | some u => exact ⟨(execOp_put o hs _ (some e) u h3).trans h1, (wanted_put o _ (some e) u h3).trans h2⟩

theorem wpAny_rows {P : Program} {md : Region.Mode} {ops : Array Oper} {Q : Exit → Act → World → Prop} {w : World} {a : Act} {listed : Array Bool} (le : Array Bool) (fuel : Nat) (ds : List (Nat × Tmp)) (F : Nat → Value → World → Prop)
    (hd1 : (ds.map (·.1)).Nodup) (hd2 : (ds.map (·.2)).Nodup)
    (hchk : ∀ p ∈ ds, ∃ o, ops[p.1]? = some o ∧ o.dst = some p.2 ∧ (∀ cs b, o.op ≠ .select cs b) ∧ (∀ q ∈ ds, q.2 ∉ o.looksAt ops) ∧ Region.wanted o (yielded ops a.tmps) = true ∧
      ∀ W, Below w.heap.size w W → ∃ v W', (execOp a.eval o).run P W = .ok (.value v) W' ∧ Below W.heap.size W W' ∧ F p.1 v W')
    (mono : ∀ i v W W', F i v W → Below W.heap.size W W' → F i v W')
    (hB : mkB md ops le ds.length (ds.map (·.1)) listed = true)
    (tail : ∀ B W, Below w.heap.size w W → (∀ p ∈ ds, ∃ v, B p.1 = some v ∧ F p.1 v W) → wpAny P md ops Q fuel le (putL a ds B) W) :
    wpAny P md ops Q (fuel + ds.length) listed a w := by
  have key := wpAny_any (P := P) (md := md) (ops := ops) (Q := Q)
    (fun todo a' W => ∃ B, a' = putL a ds B ∧ Below w.heap.size w W ∧ (∀ i ∈ todo, i ∈ ds.map (·.1)) ∧ (∀ p ∈ ds, p.1 ∉ todo → B p.1 ≠ none) ∧ ∀ p ∈ ds, ∀ v, B p.1 = some v → F p.1 v W) le fuel ?step ?tail ds.length (ds.map (·.1)) listed a w hB (by simp) ?init
  case init => exact ⟨fun _ => none, (putL_none a ds).symm, Below.refl _ _, fun i hi => hi, fun p hp hn => absurd (List.mem_map.2 ⟨p, hp, rfl⟩) hn, fun p hp v hv => by cases hv⟩
  case tail =>
    rintro a' W ⟨B, rfl, hb, -, hn, hF⟩
    refine tail B W hb fun p hp => ?_
    obtain ⟨v, hv⟩ := Option.ne_none_iff_exists'.1 (hn p hp (by simp))
    exact ⟨v, hv, hF p hp v hv⟩
  case step =>
    rintro todo i a' W hi ⟨B, rfl, hb, ht, hn, hF⟩
    obtain ⟨⟨i', d⟩, hp, rfl⟩ := List.mem_map.1 (ht i hi)
    obtain ⟨o, ho, hd, hs, hl, hw, hr⟩ := hchk _ hp
    obtain ⟨v, W', hrun, hbW, hFv⟩ := hr W hb
    obtain ⟨e1, e2⟩ := putL_exec o hs a ds B hl
    dsimp only at ho hd hrun hFv ⊢
    unfold wpOp
    simp only [ho]
    rw [if_pos (by rw [e2]; exact hw)]
    left
    unfold Oper.wp
    rw [e1, hrun, Oper.upon_value, hd]
    show ∃ B', (putL a ds B).put (some d) v = putL a ds B' ∧ _
    refine ⟨updV B i' v, putL_upd a ds B i' d v hd1 hd2 hp, hb.trans (hbW.mono hb.size), fun j hj => ht j (List.mem_of_mem_erase hj), fun q hq hqn => ?_, fun q hq u hu => ?_⟩
    · unfold updV
      by_cases h : q.1 = i'
      · rw [if_pos h]; simp
      · rw [if_neg h]
        refine hn q hq fun hm => hqn ?_
        exact (List.mem_erase_of_ne h).2 hm
    · unfold updV at hu
      by_cases h : q.1 = i'
      · rw [if_pos h] at hu; cases hu; rw [h]; exact hFv
      · rw [if_neg h] at hu; exact mono _ _ _ _ (hF q hq u hu) hbW
  exact key

theorem putL_size (a : Act) : ∀ (ds : List (Nat × Tmp)) (B : Nat → Option Value), (putL a ds B).tmps.size = a.tmps.size
  | [], _ => rfl
  | (j, e) :: r, B => by
    have := putL_size a r B
    unfold putL
    cases B j with
    | none => exact this
    | some u => simp [Act.put, this]
theorem putL_eval (a : Act) : ∀ (ds : List (Nat × Tmp)) (B : Nat → Option Value) (i : Nat) (d : Tmp) (v : Value), (ds.map (·.1)).Nodup → (ds.map (·.2)).Nodup → (i, d) ∈ ds → d < a.tmps.size → B i = some v → (putL a ds B).eval (.tmp d) = v
  | [], _, _, _, _, _, _, h, _, _ => by cases h
  | (j, e) :: r, B, i, d, v, h1, h2, h, hd, hv => by
    simp only [List.map_cons, List.nodup_cons] at h1 h2
    rcases List.mem_cons.1 h with h3 | h3
    · obtain ⟨rfl, rfl⟩ := Prod.mk.inj h3
      have := putL_size a r B
      unfold putL
      rw [hv]
      simp [Act.put, Act.eval, this, hd]
    · have he : e ≠ d := fun e' => h2.1 (by rw [e']; exact List.mem_map.2 ⟨(i, d), h3, rfl⟩)
      have e1 := putL_eval a r B i d v h1.2 h2.2 h3 hd hv
      unfold putL
      cases B j with
      | none => exact e1
      | some u => exact (Act.eval_put fun d' hd' hx => by cases hd'; cases hx; exact he rfl).trans e1
theorem putL_ne (a : Act) : ∀ (ds : List (Nat × Tmp)) (B : Nat → Option Value) (d : Tmp), (∀ q ∈ ds, q.2 ≠ d) → (putL a ds B).eval (.tmp d) = a.eval (.tmp d)
  | [], _, _, _ => rfl
  | (j, e) :: r, B, d, h => by
    have e1 := putL_ne a r B d fun q hq => h q (List.mem_cons_of_mem _ hq)
    have he := h (j, e) List.mem_cons_self
    unfold putL
    cases B j with
    | none => exact e1
    | some u => exact (Act.eval_put fun d' hd' hx => by cases hd'; cases hx; exact he rfl).trans e1
/-- In every order just those of 'todo' come up, each behind those that it hangs on, till 'le' is reached. -/
def mkD (md : Region.Mode) (ops : Array Oper) (le : Array Bool) (deps : Nat → List Nat) : Nat → List Nat → Array Bool → Bool
  | 0, _, listed => decide (listed = le)
  | f + 1, todo, listed => !(Region.ready md ops listed).isEmpty && (Region.ready md ops listed).all fun i => todo.contains i && ((deps i).all (fun j => !todo.contains j) && mkD md ops le deps f (todo.erase i) (listed.setIfInBounds i true))
theorem wpAny_dagI {P : Program} {md : Region.Mode} {ops : Array Oper} {Q : Exit → Act → World → Prop} (I : List Nat → Act → World → Prop) (le : Array Bool) (fuel : Nat) (deps : Nat → List Nat)
    (step : ∀ todo i a W, i ∈ todo → (∀ j ∈ deps i, j ∉ todo) → I todo a W → wpOp P ops Q i (fun a' W' => I (todo.erase i) a' W') a W)
    (tail : ∀ a W, I [] a W → wpAny P md ops Q fuel le a W) :
    ∀ (f : Nat) (todo : List Nat) (listed : Array Bool) (a : Act) (W : World), mkD md ops le deps f todo listed = true → todo.length = f → I todo a W → wpAny P md ops Q (fuel + f) listed a W
  | 0, todo, listed, a, W, hB, hl, hI => by
    have e : listed = le := of_decide_eq_true hB
    subst e
    rw [List.eq_nil_of_length_eq_zero hl] at hI
    exact tail a W hI
  | f + 1, todo, listed, a, W, hB, hl, hI => by
    simp only [mkD, Bool.and_eq_true, Bool.not_eq_true', List.isEmpty_eq_false_iff] at hB
    show wpAny P md ops Q ((fuel + f) + 1) listed a W
    refine ⟨fun h => absurd h hB.1, fun i hi => ?_⟩
    have h2 := List.all_eq_true.1 hB.2 i hi
    simp only [Bool.and_eq_true] at h2
    have hit : i ∈ todo := by simpa using h2.1
    have hde : ∀ j ∈ deps i, j ∉ todo := fun j hj => by have := List.all_eq_true.1 h2.2.1 j hj; simpa using this
    exact wpOp_mono (fun a' W' h' => wpAny_dagI I le fuel deps step tail f (todo.erase i) _ a' W' h2.2.2 (by rw [List.length_erase_of_mem hit, hl]; rfl) h') (step todo i a W hit hde hI)
/-- Operations that hang on one another, in whatever order they come up. -/
theorem wpAny_dag {P : Program} {md : Region.Mode} {ops : Array Oper} {Q : Exit → Act → World → Prop} {w : World} {a : Act} {listed : Array Bool} (le : Array Bool) (fuel : Nat) (ds : List (Nat × Tmp)) (deps : Nat → List Nat) (F : Nat → Value → World → Prop)
    (hd1 : (ds.map (·.1)).Nodup) (hd2 : (ds.map (·.2)).Nodup)
    (hop : ∀ p ∈ ds, ∀ B W (K : Act → World → Prop), Below w.heap.size w W → (∀ q ∈ ds, q.1 ∈ deps p.1 → ∃ v, B q.1 = some v ∧ F q.1 v W) →
      (∀ v W', Below W.heap.size W W' → F p.1 v W' → K ((putL a ds B).put (some p.2) v) W') → wpOp P ops Q p.1 K (putL a ds B) W)
    (mono : ∀ i v W W', F i v W → Below W.heap.size W W' → F i v W')
    (hB : mkD md ops le deps ds.length (ds.map (·.1)) listed = true)
    (tail : ∀ B W, Below w.heap.size w W → (∀ p ∈ ds, ∃ v, B p.1 = some v ∧ F p.1 v W) → wpAny P md ops Q fuel le (putL a ds B) W) :
    wpAny P md ops Q (fuel + ds.length) listed a w := by
  have key := wpAny_dagI (P := P) (md := md) (ops := ops) (Q := Q)
    (fun todo a' W => ∃ B, a' = putL a ds B ∧ Below w.heap.size w W ∧ (∀ i ∈ todo, i ∈ ds.map (·.1)) ∧ (∀ p ∈ ds, p.1 ∉ todo → B p.1 ≠ none) ∧ ∀ p ∈ ds, ∀ v, B p.1 = some v → F p.1 v W) le fuel deps ?step ?tail ds.length (ds.map (·.1)) listed a w hB (by simp) ?init
  case init => exact ⟨fun _ => none, (putL_none a ds).symm, Below.refl _ _, fun i hi => hi, fun p hp hn => absurd (List.mem_map.2 ⟨p, hp, rfl⟩) hn, fun p hp v hv => by cases hv⟩
  case tail =>
    rintro a' W ⟨B, rfl, hb, -, hn, hF⟩
    refine tail B W hb fun p hp => ?_
    obtain ⟨v, hv⟩ := Option.ne_none_iff_exists'.1 (hn p hp (by simp))
    exact ⟨v, hv, hF p hp v hv⟩
  case step =>
    rintro todo i a' W hi hde ⟨B, rfl, hb, ht, hn, hF⟩
    obtain ⟨⟨i', d⟩, hp, rfl⟩ := List.mem_map.1 (ht i hi)
    refine hop _ hp B W _ hb (fun q hq hqd => ?_) fun v W' hbW hFv => ?_
    · obtain ⟨v, hv⟩ := Option.ne_none_iff_exists'.1 (hn q hq (hde _ hqd))
      exact ⟨v, hv, hF q hq v hv⟩
    · refine ⟨updV B i' v, putL_upd a ds B i' d v hd1 hd2 hp, hb.trans (hbW.mono hb.size), fun j hj => ht j (List.mem_of_mem_erase hj), fun q hq hqn => ?_, fun q hq u hu => ?_⟩
      · unfold updV
        by_cases h : q.1 = i'
        · rw [if_pos h]; simp
        · rw [if_neg h]
          refine hn q hq fun hm => hqn ?_
          exact (List.mem_erase_of_ne h).2 hm
      · unfold updV at hu
        by_cases h : q.1 = i'
        · rw [if_pos h] at hu; cases hu; rw [h]; exact hFv
        · rw [if_neg h] at hu; exact mono _ _ _ _ (hF q hq u hu) hbW
  exact key
/-- As wpAny_dag, each operation with its own word on what it keeps. -/
theorem wpAny_dagG {P : Program} {md : Region.Mode} {ops : Array Oper} {Q : Exit → Act → World → Prop} {w : World} {a : Act} {listed : Array Bool} (n : Nat) (G : Nat → World → World → Prop) (Z : Nat → World → Prop) (le : Array Bool) (fuel : Nat) (ds : List (Nat × Tmp)) (deps : Nat → List Nat) (F : Nat → Value → World → Prop)
    (hd1 : (ds.map (·.1)).Nodup) (hd2 : (ds.map (·.2)).Nodup)
    (hZ : ∀ i, Z i w)
    (hop : ∀ p ∈ ds, ∀ B W (K : Act → World → Prop), Below n w W → Z p.1 W → (∀ q ∈ ds, q.1 ∈ deps p.1 → ∃ v, B q.1 = some v ∧ F q.1 v W) →
      (∀ v W', G p.1 W W' → F p.1 v W' → K ((putL a ds B).put (some p.2) v) W') → wpOp P ops Q p.1 K (putL a ds B) W)
    (hG : ∀ j W W', G j W W' → Below n W W')
    (mono : ∀ j i v W W', i ≠ j → F i v W → G j W W' → F i v W')
    (monoZ : ∀ j i W W', i ≠ j → Z i W → G j W W' → Z i W')
    (hB : mkD md ops le deps ds.length (ds.map (·.1)) listed = true)
    (tail : ∀ B W, Below n w W → (∀ p ∈ ds, ∃ v, B p.1 = some v ∧ F p.1 v W) → wpAny P md ops Q fuel le (putL a ds B) W) :
    wpAny P md ops Q (fuel + ds.length) listed a w := by
  have key := wpAny_dagI (P := P) (md := md) (ops := ops) (Q := Q)
    (fun todo a' W => ∃ B, a' = putL a ds B ∧ Below n w W ∧ (todo.Nodup ∧ ∀ i ∈ todo, Z i W) ∧ (∀ i ∈ todo, i ∈ ds.map (·.1)) ∧ (∀ p ∈ ds, p.1 ∉ todo → B p.1 ≠ none) ∧ ∀ p ∈ ds, ∀ v, B p.1 = some v → F p.1 v W) le fuel deps ?step ?tail ds.length (ds.map (·.1)) listed a w hB (by simp) ?init
  case init => exact ⟨fun _ => none, (putL_none a ds).symm, Below.refl _ _, ⟨hd1, fun i _ => hZ i⟩, fun i hi => hi, fun p hp hn => absurd (List.mem_map.2 ⟨p, hp, rfl⟩) hn, fun p hp v hv => by cases hv⟩
  case tail =>
    rintro a' W ⟨B, rfl, hb, -, -, hn, hF⟩
    refine tail B W hb fun p hp => ?_
    obtain ⟨v, hv⟩ := Option.ne_none_iff_exists'.1 (hn p hp (by simp))
    exact ⟨v, hv, hF p hp v hv⟩
  case step =>
    rintro todo i a' W hi hde ⟨B, rfl, hb, ⟨hnd, hz⟩, ht, hn, hF⟩
    obtain ⟨⟨i', d⟩, hp, rfl⟩ := List.mem_map.1 (ht i hi)
    refine hop _ hp B W _ hb (hz _ hi) (fun q hq hqd => ?_) fun v W' hbW hFv => ?_
    · obtain ⟨v, hv⟩ := Option.ne_none_iff_exists'.1 (hn q hq (hde _ hqd))
      exact ⟨v, hv, hF q hq v hv⟩
    · refine ⟨updV B i' v, putL_upd a ds B i' d v hd1 hd2 hp, hb.trans (hG _ _ _ hbW), ⟨hnd.erase _, fun j hj => monoZ _ _ _ _ (fun e => by rw [e] at hj; exact (hnd.not_mem_erase) hj) (hz j (List.mem_of_mem_erase hj)) hbW⟩, fun j hj => ht j (List.mem_of_mem_erase hj), fun q hq hqn => ?_, fun q hq u hu => ?_⟩
      · unfold updV
        by_cases h : q.1 = i'
        · rw [if_pos h]; simp
        · rw [if_neg h]
          refine hn q hq fun hm => hqn ?_
          exact (List.mem_erase_of_ne h).2 hm
      · unfold updV at hu
        by_cases h : q.1 = i'
        · rw [if_pos h] at hu; cases hu; rw [h]; exact hFv
        · rw [if_neg h] at hu; exact mono _ _ _ _ _ h (hF q hq u hu) hbW
  exact key
/-- An operation that yields a value. -/
theorem wpOp_value {P : Program} {ops : Array Oper} {Q : Exit → Act → World → Prop} {i : Nat} {o : Oper} {K : Act → World → Prop} {A : Act} {W W' : World} {v : Value} (h0 : ops[i]? = some o) (hw : Region.wanted o (yielded ops A.tmps) = true)
    (hr : (execOp A.eval o).run P W = .ok (.value v) W') (h : K (A.put o.dst v) W') : wpOp P ops Q i K A W := by
  unfold wpOp
  simp only [h0]
  rw [if_pos hw]
  left
  unfold Oper.wp
  rw [hr, Oper.upon_value]
  exact h
/-- A call of a function of the program. -/
theorem wpOp_call {P : Program} {ops : Array Oper} {Q : Exit → Act → World → Prop} {i : Nat} {o : Oper} {K : Act → World → Prop} {A : Act} {W : World} {f : Nat} {args : Array Value} (h0 : ops[i]? = some o) (hw : Region.wanted o (yielded ops A.tmps) = true)
    (hr : (execOp A.eval o).run P W = .ok (.enter f args) W) (h : Calls P f args W fun e w' => ∃ v, e = .returned v ∧ K (A.put o.dst v) w') : wpOp P ops Q i K A W := by
  unfold wpOp
  simp only [h0]
  rw [if_pos hw]
  left
  unfold Oper.wp
  rw [hr]
  simp only [Oper.upon]
  refine Calls.mono h fun e w' he => ?_
  obtain ⟨v, rfl, hk⟩ := he
  exact hk

/-- Some that come in a forced order, then what is left. -/
theorem wpAny_midL {P : Program} {md : Region.Mode} {ops : Array Oper} {Q : Exit → Act → World → Prop} {fuel : Nat} {l2 : Array Bool} :
    ∀ (m : List Bool) (l : List Oper) (k : Nat) (listed : Array Bool) (a : Act) (w : World), (∀ j, l[j]? = ops[k + j]?) → runB md ops m k listed = some l2 →
    wpList P ops (Exit.then (fun a' w' => wpAny P md ops Q fuel l2 a' w') Q) (maskL m l) a w → wpAny P md ops Q (fuel + m.count true) listed a w
  | [], l, k, listed, a, w, _, hB, h => by
    simp only [runB, Option.some.injEq] at hB
    subst hB
    cases l <;> exact h
  | false :: m, l, k, listed, a, w, hl, hB, h => by
    simp only [runB] at hB
    cases l with
    | nil =>
      have := wpAny_midL m [] (k + 1) listed a w (fun j => by have := hl (j + 1); simpa [Nat.add_assoc, Nat.add_comm 1 j] using this) hB (by cases m with | nil => exact h | cons b m => cases b <;> exact h)
      simpa using this
    | cons o l =>
      have := wpAny_midL m l (k + 1) listed a w (fun j => by have := hl (j + 1); simpa [Nat.add_assoc, Nat.add_comm 1 j] using this) hB h
      simpa using this
  | true :: m, l, k, listed, a, w, hl, hB, h => by
    simp only [runB] at hB
    split at hB
    · rename_i hr1
      have hr1 : Region.ready md ops listed = [k] := by simpa using hr1
      have hm : k ∈ Region.ready md ops listed := by rw [hr1]; exact List.mem_singleton.2 rfl
      cases l with
      | nil =>
        have h0 : ops[k]? = none := by simpa using (hl 0).symm
        obtain ⟨_, o, ho, _⟩ := mem_ready.1 hm
        rw [h0] at ho; cases ho
      | cons o l =>
        have h0 : ops[k]? = some o := by simpa using (hl 0).symm
        have hl' : ∀ j, l[j]? = ops[k + 1 + j]? := fun j => by have := hl (j + 1); simpa [Nat.add_assoc, Nat.add_comm 1 j] using this
        have h1 : wpList P ops (Exit.then (fun a' w' => wpList P ops (Exit.then (fun a' w' => wpAny P md ops Q fuel l2 a' w') Q) (maskL m l) a' w') Q) [o] a w := by
          have : wpList P ops (Exit.then (fun a' w' => wpAny P md ops Q fuel l2 a' w') Q) (o :: maskL m l) a w := h
          unfold wpList at this ⊢
          split
          · rename_i hw
            rw [if_pos hw] at this
            rcases this with t | t
            · left
              unfold Oper.wp at *
              generalize (execOp a.eval o).run P w = r at *
              cases r with
              | ok n w' =>
                cases n <;> simp only [Oper.upon] at t ⊢
                case value u => exact t
                case skip => exact t
                case defer d => exact t
                case enter f args =>
                  refine Calls.mono t fun e w'' he => ?_
                  cases e with
                  | returned u => exact he
                  | panicked c => exact he
                  | outgrown => obtain ⟨a2, w2, h3⟩ := he; exact ⟨a2, w2, h3⟩
                case row row args => exact Rows.mono t fun u w'' he => he
              | halt x w' =>
                cases x <;> simp only [Oper.upon] at t ⊢
                case panic u => exact t
            · exact .inr t
          · rename_i hw
            rw [if_neg hw] at this
            exact this
        have h2 := wpOp_of_list h0 h1
        have : wpAny P md ops Q (fuel + m.count true + 1) listed a w := by
          refine ⟨fun h0 => (by rw [hr1] at h0; cases h0), fun j hj => ?_⟩
          rw [hr1] at hj
          have : j = k := by simpa using hj
          subst this
          exact wpOp_mono (fun a' w' h3 => wpAny_midL m l (j + 1) _ a' w' hl' hB h3) h2
        simpa [Nat.add_assoc] using this
    · cases hB
theorem wpAny_mid {P : Program} {md : Region.Mode} {l : List Oper} {Q : Exit → Act → World → Prop} {listed : Array Bool} {a : Act} {w : World} (fuel : Nat) (m : List Bool) (l2 : Array Bool) (hB : runB md l.toArray m 0 listed = some l2)
    (h : wpList P l.toArray (Exit.then (fun a' w' => wpAny P md l.toArray Q fuel l2 a' w') Q) (maskL m l) a w) : wpAny P md l.toArray Q (fuel + m.count true) listed a w :=
  wpAny_midL m l 0 listed a w (fun j => by simp) hB h
end Go.Proofs.Ytiemfklonhlnnaa.Mix

namespace Go.Proofs.Ytiemfklonhlnnaa
open Go

theorem wp_scope_forward {P : Program} {Q : Exit → Act → World → Prop} {a : Act} {w : World} {c rest : Code} (l : Nat) (hf : findLabel c l = some rest)
    (first : c.wp P (Exit.jump l (fun a' w' => rest.wp P (Exit.jump l (fun _ _ => False) Q) a' w') Q) a w) : (Code.scope c).wp P Q a w := by
  refine wp_scope_jumps l (fun a' w' => rest.wp P (Exit.jump l (fun _ _ => False) Q) a' w') (fun _ _ => 0) hf first fun a' w' h => Code.wp_mono (fun e a2 w2 hq => ?_) h
  cases e with
  | goto l' => exact hq.2.elim
  | normal => exact hq
  | exit i => exact hq
  | ret => exact hq
  | panic u => exact hq
  | outgrown => exact hq
end Go.Proofs.Ytiemfklonhlnnaa

namespace Go.Proofs.Ytiemfklonhlnnaa.Lay
open Go.RowKit Go.Shelf Go.Sort Go.Proofs.Ytiemfklonhlnnaa Go.Proofs.Ytiemfklonhlnnaa.Occ Go.Proofs.Ytiemfklonhlnnaa.Slo

theorem places_at (n f d k : Nat) (h : k < n) : (Spr.placesL n f d).getD k 0 = ((f + k * d / n : Nat) : Int) := by
  unfold Spr.placesL upto
  simp [List.getD_eq_getElem?_getD, h, Spr.place]
theorem div_step (d n k : Nat) (h : n ≤ d) (h0 : 0 < n) : k * d / n + 1 ≤ (k + 1) * d / n := by
  have : k * d / n + 1 = (k * d + n) / n := by rw [Nat.add_div_right _ h0]
  rw [this]
  exact Nat.div_le_div_right (by rw [Nat.add_mul]; omega)
theorem div_last (d n k : Nat) (h0 : 0 < n) (h : n ≤ d) (hk : k < n) : k * d / n < d := by
  rw [Nat.div_lt_iff_lt_mul h0, Nat.mul_comm d n]
  exact Nat.mul_lt_mul_of_pos_right hk (by omega)
theorem places_part (n f d : Nat) (h : n ≤ d) : partB (f : Int) ((f + d : Nat) : Int) (Spr.placesL n f d) = true := by
  rw [partB_ends, risesB_iff, Spr.placesL_length]
  refine ⟨fun i hi => ?_, fun h0 => ⟨?_, ?_⟩⟩
  · rw [places_at _ _ _ _ (by omega), places_at _ _ _ _ hi]
    have := div_step d n i h (by omega)
    omega
  · rw [places_at _ _ _ _ h0, Nat.zero_mul, Nat.zero_div]; omega
  · rw [places_at _ _ _ _ (by omega)]
    have := div_last d n (n - 1) h0 h (by omega)
    omega
/-- What is spread over a part. -/
def spreadV (s : Sl) (f t : Nat) (ps : List (Int × Int)) : Sl := fillV s f t (Spr.placesL ps.length f (t - f)) ps
def overSV (s : Sl) (f t : Int) (ps : List (Int × Int)) : Sl × Int :=
  if chkS s ≠ 0 then (noneS, chkS s) else if (Spr.placesV ps.length f t).2 ≠ 0 then (noneS, (Spr.placesV ps.length f t).2) else fillSV s f t (Spr.placesV ps.length f t).1 ps
theorem overSV_ok {s : Sl} {f t : Int} {ps : List (Int × Int)} (h : askS s (inB s.ks.length f t) = 0) (hl : (ps.length : Int) ≤ t - f) : overSV s f t ps = (spreadV s f.toNat t.toNat ps, 0) := by
  obtain ⟨hok, hin⟩ := askS_ok h
  obtain ⟨h0, h1, h2⟩ := inB_iff.1 hin
  obtain ⟨g, q, o⟩ := okS_iff.1 hok
  have hn := o.n1
  obtain ⟨f, rfl⟩ := Int.eq_ofNat_of_zero_le h0
  obtain ⟨t, rfl⟩ := Int.eq_ofNat_of_zero_le (show 0 ≤ t by omega)
  have hm : Spr.mayB (ps.length : Int) (f : Int) (t : Int) = true := Spr.mayB_iff.2 ⟨by omega, by omega, by omega, by omega, by omega⟩
  have hp : Spr.placesV (ps.length : Int) (f : Int) (t : Int) = (Spr.placesL ps.length f (t - f), 0) := by
    unfold Spr.placesV
    rw [if_pos hm, show ((t : Int) - (f : Int)).toNat = t - f by omega]
    simp
  have hpart := places_part ps.length f (t - f) (by omega)
  rw [show f + (t - f) = t by omega] at hpart
  unfold overSV
  rw [chkS_yes hok, hp]
  simp only [ne_eq, not_true_eq_false, if_false]
  unfold fillSV
  rw [if_neg (by rw [h]; simp), if_neg (by rw [hpart, Spr.placesL_length]; simp)]
  simp [spreadV]
/-- Even. -/
def evenSV (s : Sl) (f t : Int) : Sl × Int := if (prsV s f t).2 ≠ 0 then (noneS, (prsV s f t).2) else (spreadV s f.toNat t.toNat (prsV s f t).1, 0)
theorem prsV_ask {s : Sl} {f t : Int} (h : (prsV s f t).2 = 0) : askS s (inB s.ks.length f t) = 0 := by
  unfold prsV at h
  split at h
  · assumption
  · exact h
theorem prsV_fits {s : Sl} {f t : Int} (h : (prsV s f t).2 = 0) : ((prsV s f t).1.length : Int) ≤ t - f ∧ (prsV s f t).1.length ≤ 65536 := by
  have ha := prsV_ask h
  obtain ⟨hok, hin⟩ := askS_ok ha
  obtain ⟨h0, h1, h2⟩ := inB_iff.1 hin
  obtain ⟨g, q, o⟩ := okS_iff.1 hok
  have hn := o.n1
  unfold prsV
  rw [if_pos ha]
  have := prs_length s f.toNat (t - f).toNat
  have := occs_length s.ws f.toNat (t - f).toNat
  dsimp only
  omega
theorem prsV_small (s : Sl) (f t : Int) : (prsV s f t).1.length ≤ 65536 := by
  by_cases h : (prsV s f t).2 = 0
  · exact (prsV_fits h).2
  · unfold prsV at h ⊢
    split
    · rename_i h2; rw [if_pos h2] at h; simp at h
    · simp
theorem evenSV_ok {s : Sl} {f t : Int} (h : (prsV s f t).2 = 0) : overSV s f t (prsV s f t).1 = evenSV s f t := by
  rw [overSV_ok (prsV_ask h) (prsV_fits h).1]
  unfold evenSV
  rw [if_neg (by rw [h]; simp)]
/-- With one more. -/
def amongV (l : List (Int × Int)) (k : Nat) (x y : Int) : List (Int × Int) := l.take k ++ (x, y) :: l.drop k
theorem amongV_length (l : List (Int × Int)) (k : Nat) (x y : Int) (h : k ≤ l.length) : (amongV l k x y).length = l.length + 1 := by
  unfold amongV
  rw [List.length_append, List.length_cons, List.length_take, List.length_drop]
  omega
def withSV (s : Sl) (f t k x y : Int) : Sl × Int :=
  if (prsV s f t).2 ≠ 0 then (noneS, (prsV s f t).2) else if ((prsV s f t).1.length : Int) = t - f then (noneS, 9) else if k < 0 ∨ ((prsV s f t).1.length : Int) < k then (noneS, 2)
  else (spreadV s f.toNat t.toNat (amongV (prsV s f t).1 k.toNat x y), 0)
/-- Of another size. -/
def wideV (s : Sl) (n : Int) : Sl := { emptyV s.seg.toNat n.toNat with laid := s.laid }
def intoSV (s : Sl) (n : Int) (ps : List (Int × Int)) : Sl × Int :=
  if chkS s ≠ 0 then (noneS, chkS s) else if fitsB s.seg n = false ∨ n < ps.length then (noneS, 2) else (spreadV (wideV s n) 0 n.toNat ps, 0)
end Go.Proofs.Ytiemfklonhlnnaa.Lay

namespace Go.Proofs.Ytiemfklonhlnnaa.Lay
open Go.RowKit Go.Shelf Go.Sort Go.Proofs.Ytiemfklonhlnnaa Go.Proofs.Ytiemfklonhlnnaa.Occ Go.Proofs.Ytiemfklonhlnnaa.Slo
attribute [local go_sem] sval Oper.semAt_some

set_option maxRecDepth 100000 in
set_option maxHeartbeats 8000000 in
theorem over_any (s : Sl) (h : Hd) (f t : Int) (al : Option Addr) (cl : Nat) (ps : List (Int × Int)) (w : World) (W : s.Wf) (R : SRd w s h) (hrp : Rd2 w al ps) (lp : ps.length ≤ 1000000) :
    Calls Try.prog 51 #[sval s h, .int .i64 f, .int .i64 t, .slice al ps.length cl] w fun e w' => AnsS (overSV s f t ps) w e w' := by
  have HC := Lib.hid (sCheck_any s h (twoW w s h (.cells #[.int .i64 0, .slice Option.none 0 0, .slice Option.none 0 0, .slice Option.none 0 0, .slice Option.none 0 0, .int .u64 0] 29)) W (R.mono (twoW_below w s h _) (Nat.le_refl _)))
  have HB0 := Lib.hid (twoW_below w s h (.cells #[.int .i64 0, .slice Option.none 0 0, .slice Option.none 0 0, .slice Option.none 0 0, .slice Option.none 0 0, .int .u64 0] 29))
  have HX0 := Lib.hid (twoW_box w s h (.cells #[.int .i64 0, .slice Option.none 0 0, .slice Option.none 0 0, .slice Option.none 0 0, .slice Option.none 0 0, .int .u64 0] 29))
  have HZ0 := Lib.hid (twoW_zero w s h)
  have HS0 := Lib.hid (twoW_size w s h (.cells #[.int .i64 0, .slice Option.none 0 0, .slice Option.none 0 0, .slice Option.none 0 0, .slice Option.none 0 0, .int .u64 0] 29))
  have HPL := Lib.hid (fun w1 => Spr.Places_any ps.length f t w1)
  have HV0 : Hid (overSV s f t ps = if chkS s ≠ 0 then (noneS, chkS s) else if (Spr.placesV ps.length f t).2 ≠ 0 then (noneS, (Spr.placesV ps.length f t).2) else fillSV s f t (Spr.placesV ps.length f t).1 ps) := Lib.hid rfl
  generalize hL : overSV s f t ps = LV at *
  clear hL
  by_cases hc : chkS s = 0
  case neg =>
    have HV : Hid (LV = (noneS, chkS s)) := Lib.hid (by rw [HV0.out, if_pos hc])
    clear HV0
    generalize chkS s = ck at *
    have hne : (ck != 0) = true := by rw [bne_iff_ne]; exact hc
    clear W R hrp lp HPL hc
    unfold sval at *
    go_enter Try.func51, Try.ntmps51
    go_wp2_with fail
    refine wp_scope_forward 0 rfl ?_
    go_wp2_with fail
    rw [twoW_fold]
    refine HC.out.mono ?_
    rintro e w1 ⟨rfl, hb⟩
    have HB1 : Hid (Below w.heap.size w w1) := Lib.hid (HB0.out.trans (hb.mono HB0.out.size))
    have HX1 := Lib.hid (HX0.out.below hb (by have := HS0.out; omega))
    have HD1 := Lib.hid (HZ0.out.below hb (by have := HS0.out; omega))
    have HL1 : Hid (w.heap.size + 2 ≤ w1.heap.size) := Lib.hid (by have := hb.size; have := HS0.out; omega)
    clear hb HB0 HX0 HZ0 HC HS0
    generalize twoW w s h (.cells #[.int .i64 0, .slice Option.none 0 0, .slice Option.none 0 0, .slice Option.none 0 0, .slice Option.none 0 0, .int .u64 0] 29) = w0 at *
    have d0 := HD1.out.c0; have d1 := HD1.out.c1; have d2 := HD1.out.c2; have d3 := HD1.out.c3; have d4 := HD1.out.c4; have d5 := HD1.out.c5
    have f0 := HD1.out.f 0; have f1 := HD1.out.f 1; have f2 := HD1.out.f 2; have f3 := HD1.out.f 3; have f4 := HD1.out.f 4; have f5 := HD1.out.f 5
    go_wp2
    go_step3
    refine ⟨rfl, ?_⟩
    go_wp2
    rw [stZ_fold]
    have q0 := (stS_box (s := noneS) (h := noneH) HD1.out).c0; have q1 := (stS_box (s := noneS) (h := noneH) HD1.out).c1; have q2 := (stS_box (s := noneS) (h := noneH) HD1.out).c2; have q3 := (stS_box (s := noneS) (h := noneH) HD1.out).c3; have q4 := (stS_box (s := noneS) (h := noneH) HD1.out).c4; have q5 := (stS_box (s := noneS) (h := noneH) HD1.out).c5
    refine bodyPost_ret (v := .tuple #[sval noneS noneH, .int .i64 ck]) (by simp [results, Try.results51, sval, go_sem, q0, q1, q2, q3, q4, q5]) rfl ⟨noneH, by rw [HV.out], by rw [HV.out]; exact noneS_own _ _ _, stS_below HB1.out (by omega)⟩
  case pos =>
    have HV1 : Hid (LV = if (Spr.placesV ps.length f t).2 ≠ 0 then (noneS, (Spr.placesV ps.length f t).2) else fillSV s f t (Spr.placesV ps.length f t).1 ps) := Lib.hid (by rw [HV0.out, if_neg (by rw [hc]; simp)])
    clear HV0
    rw [hc] at HC
    clear hc
    by_cases hp : (Spr.placesV ps.length f t).2 = 0
    case neg =>
      have HV : Hid (LV = (noneS, (Spr.placesV ps.length f t).2)) := Lib.hid (by rw [HV1.out, if_pos hp])
      clear HV1
      generalize Spr.placesV ps.length f t = pv at *
      obtain ⟨PLs, ck⟩ := pv
      dsimp only at hp HV
      have hne : (ck != 0) = true := by rw [bne_iff_ne]; exact hp
      clear W R hrp lp hp
      unfold sval at *
      go_enter Try.func51, Try.ntmps51
      go_wp2_with fail
      refine wp_scope_forward 0 rfl ?_
      go_wp2_with fail
      rw [twoW_fold]
      refine HC.out.mono ?_
      rintro e w1 ⟨rfl, hb⟩
      have HB1 : Hid (Below w.heap.size w w1) := Lib.hid (HB0.out.trans (hb.mono HB0.out.size))
      have HX1 := Lib.hid (HX0.out.below hb (by have := HS0.out; omega))
      have HD1 := Lib.hid (HZ0.out.below hb (by have := HS0.out; omega))
      have HL1 : Hid (w.heap.size + 2 ≤ w1.heap.size) := Lib.hid (by have := hb.size; have := HS0.out; omega)
      clear hb HB0 HX0 HZ0 HC HS0
      generalize twoW w s h (.cells #[.int .i64 0, .slice Option.none 0 0, .slice Option.none 0 0, .slice Option.none 0 0, .slice Option.none 0 0, .int .u64 0] 29) = w0 at *
      go_wp2_with fail
      refine (HPL.out _).mono ?_
      rintro e w2 ⟨v, rfl, ho, hb⟩
      obtain ⟨ap, cp, rfl, -, hrx, -⟩ := owns_arg ho
      have HB2 : Hid (Below w.heap.size w w2) := Lib.hid (HB1.out.trans (hb.mono HB1.out.size))
      have HX2 := Lib.hid (HX1.out.below hb (by have := HL1.out; omega))
      have HD2 := Lib.hid (HD1.out.below hb (by have := HL1.out; omega))
      have HL2 : Hid (w.heap.size + 2 ≤ w2.heap.size) := Lib.hid (by have := hb.size; have := HL1.out; omega)
      have HRX := Lib.hid hrx
      clear ho hb hrx HX1 HD1 HL1 HB1
      have d0 := HD2.out.c0; have d1 := HD2.out.c1; have d2 := HD2.out.c2; have d3 := HD2.out.c3; have d4 := HD2.out.c4; have d5 := HD2.out.c5
      have f0 := HD2.out.f 0; have f1 := HD2.out.f 1; have f2 := HD2.out.f 2; have f3 := HD2.out.f 3; have f4 := HD2.out.f 4; have f5 := HD2.out.f 5
      go_wp2
      go_step3
      refine ⟨rfl, ?_⟩
      go_wp2
      rw [stZ_fold]
      have q0 := (stS_box (s := noneS) (h := noneH) HD2.out).c0; have q1 := (stS_box (s := noneS) (h := noneH) HD2.out).c1; have q2 := (stS_box (s := noneS) (h := noneH) HD2.out).c2; have q3 := (stS_box (s := noneS) (h := noneH) HD2.out).c3; have q4 := (stS_box (s := noneS) (h := noneH) HD2.out).c4; have q5 := (stS_box (s := noneS) (h := noneH) HD2.out).c5
      refine bodyPost_ret (v := .tuple #[sval noneS noneH, .int .i64 ck]) (by simp [results, Try.results51, sval, go_sem, q0, q1, q2, q3, q4, q5]) rfl ⟨noneH, by rw [HV.out], by rw [HV.out]; exact noneS_own _ _ _, stS_below HB2.out (by omega)⟩
    case pos =>
      have HV2 : Hid (LV = fillSV s f t (Spr.placesV ps.length f t).1 ps) := Lib.hid (by rw [HV1.out, if_neg (by rw [hp]; simp)])
      clear HV1
      have hpl : (Spr.placesV ps.length f t).1.length ≤ 1000000 := by
        unfold Spr.placesV; split
        · dsimp only; rw [Spr.placesL_length]; omega
        · simp
      generalize Spr.placesV ps.length f t = pv at *
      obtain ⟨PLs, ck⟩ := pv
      dsimp only at hp HV2 hpl
      subst hp
      have HFI := Lib.hid (fun ax cx w1 (hb : Below w.heap.size w w1) (hx : Rd .i64 w1 ax PLs) => Fill_any s h f t ax cx PLs al cl ps w1 W (R.mono hb (Nat.le_refl _)) hx (hrp.mono hb (Nat.le_refl _)) (by omega) (by omega))
      have hno : (fillSV s f t PLs ps).2 ≠ 0 → (fillSV s f t PLs ps).1 = noneS := fillSV_no
      generalize fillSV s f t PLs ps = fv at *
      obtain ⟨X, ex⟩ := fv
      dsimp only at hno
      clear W R hrp lp hpl
      by_cases hx : ex = 0
      case neg =>
        have HV : Hid (LV = (noneS, ex)) := Lib.hid (by rw [HV2.out, hno hx])
        clear HV2
        have hne : (ex == 0) = false := by rw [beq_eq_false_iff_ne]; exact hx
        clear hno hx
        unfold sval at *
        go_enter Try.func51, Try.ntmps51
        go_wp2_with fail
        refine wp_scope_forward 0 rfl ?_
        go_wp2_with fail
        rw [twoW_fold]
        refine HC.out.mono ?_
        rintro e w1 ⟨rfl, hb⟩
        have HB1 : Hid (Below w.heap.size w w1) := Lib.hid (HB0.out.trans (hb.mono HB0.out.size))
        have HX1 := Lib.hid (HX0.out.below hb (by have := HS0.out; omega))
        have HD1 := Lib.hid (HZ0.out.below hb (by have := HS0.out; omega))
        have HL1 : Hid (w.heap.size + 2 ≤ w1.heap.size) := Lib.hid (by have := hb.size; have := HS0.out; omega)
        clear hb HB0 HX0 HZ0 HC HS0
        generalize twoW w s h (.cells #[.int .i64 0, .slice Option.none 0 0, .slice Option.none 0 0, .slice Option.none 0 0, .slice Option.none 0 0, .int .u64 0] 29) = w0 at *
        go_wp2_with fail
        refine (HPL.out _).mono ?_
        rintro e w2 ⟨v, rfl, ho, hb⟩
        obtain ⟨ap, cp, rfl, -, hrx, -⟩ := owns_arg ho
        have HB2 : Hid (Below w.heap.size w w2) := Lib.hid (HB1.out.trans (hb.mono HB1.out.size))
        have HX2 := Lib.hid (HX1.out.below hb (by have := HL1.out; omega))
        have HD2 := Lib.hid (HD1.out.below hb (by have := HL1.out; omega))
        have HL2 : Hid (w.heap.size + 2 ≤ w2.heap.size) := Lib.hid (by have := hb.size; have := HL1.out; omega)
        have HRX := Lib.hid hrx
        clear ho hb hrx HX1 HD1 HL1 HB1
        have c0 := HX2.out.c0; have c1 := HX2.out.c1; have c2 := HX2.out.c2; have c3 := HX2.out.c3; have c4 := HX2.out.c4; have c5 := HX2.out.c5
        go_wp2_with fail
        refine (HFI.out ap cp _ HB2.out HRX.out).mono ?_
        rintro e w3 ⟨h3, rfl, ho, hb⟩
        have HB3 : Hid (Below w.heap.size w w3) := Lib.hid (HB2.out.trans (hb.mono HB2.out.size))
        have HD3 := Lib.hid (HD2.out.below hb (by have := HL2.out; omega))
        have HO3 := Lib.hid ho
        clear hb ho c0 c1 c2 c3 c4 c5 HFI HX2 HD2 HB2 HRX
        have d0 := HD3.out.c0; have d1 := HD3.out.c1; have d2 := HD3.out.c2; have d3 := HD3.out.c3; have d4 := HD3.out.c4; have d5 := HD3.out.c5
        have f0 := HD3.out.f 0; have f1 := HD3.out.f 1; have f2 := HD3.out.f 2; have f3 := HD3.out.f 3; have f4 := HD3.out.f 4; have f5 := HD3.out.f 5
        go_wp2
        refine wp_label ?_
        go_wp2
        rw [stS_fold, stZ_fold]
        have D4 := stS_box (s := X) (h := h3) HD3.out
        have q0 := (stS_box (s := noneS) (h := noneH) D4).c0; have q1 := (stS_box (s := noneS) (h := noneH) D4).c1; have q2 := (stS_box (s := noneS) (h := noneH) D4).c2; have q3 := (stS_box (s := noneS) (h := noneH) D4).c3; have q4 := (stS_box (s := noneS) (h := noneH) D4).c4; have q5 := (stS_box (s := noneS) (h := noneH) D4).c5
        refine bodyPost_ret (v := .tuple #[sval noneS noneH, .int .i64 ex]) (by simp [results, Try.results51, sval, go_sem, q0, q1, q2, q3, q4, q5]) rfl ⟨noneH, by rw [HV.out], by rw [HV.out]; exact noneS_own _ _ _, stS_below (stS_below HB3.out (by omega)) (by omega)⟩
      case pos =>
        subst hx
        clear hno
        have HV := HV2
        clear HV2
        unfold sval at *
        go_enter Try.func51, Try.ntmps51
        go_wp2_with fail
        refine wp_scope_forward 0 rfl ?_
        go_wp2_with fail
        rw [twoW_fold]
        refine HC.out.mono ?_
        rintro e w1 ⟨rfl, hb⟩
        have HB1 : Hid (Below w.heap.size w w1) := Lib.hid (HB0.out.trans (hb.mono HB0.out.size))
        have HX1 := Lib.hid (HX0.out.below hb (by have := HS0.out; omega))
        have HD1 := Lib.hid (HZ0.out.below hb (by have := HS0.out; omega))
        have HL1 : Hid (w.heap.size + 2 ≤ w1.heap.size) := Lib.hid (by have := hb.size; have := HS0.out; omega)
        clear hb HB0 HX0 HZ0 HC HS0
        generalize twoW w s h (.cells #[.int .i64 0, .slice Option.none 0 0, .slice Option.none 0 0, .slice Option.none 0 0, .slice Option.none 0 0, .int .u64 0] 29) = w0 at *
        go_wp2_with fail
        refine (HPL.out _).mono ?_
        rintro e w2 ⟨v, rfl, ho, hb⟩
        obtain ⟨ap, cp, rfl, -, hrx, -⟩ := owns_arg ho
        have HB2 : Hid (Below w.heap.size w w2) := Lib.hid (HB1.out.trans (hb.mono HB1.out.size))
        have HX2 := Lib.hid (HX1.out.below hb (by have := HL1.out; omega))
        have HD2 := Lib.hid (HD1.out.below hb (by have := HL1.out; omega))
        have HL2 : Hid (w.heap.size + 2 ≤ w2.heap.size) := Lib.hid (by have := hb.size; have := HL1.out; omega)
        have HRX := Lib.hid hrx
        clear ho hb hrx HX1 HD1 HL1 HB1
        have c0 := HX2.out.c0; have c1 := HX2.out.c1; have c2 := HX2.out.c2; have c3 := HX2.out.c3; have c4 := HX2.out.c4; have c5 := HX2.out.c5
        go_wp2_with fail
        refine (HFI.out ap cp _ HB2.out HRX.out).mono ?_
        rintro e w3 ⟨h3, rfl, ho, hb⟩
        have HB3 : Hid (Below w.heap.size w w3) := Lib.hid (HB2.out.trans (hb.mono HB2.out.size))
        have HD3 := Lib.hid (HD2.out.below hb (by have := HL2.out; omega))
        have HO3 := Lib.hid ho
        clear hb ho c0 c1 c2 c3 c4 c5 HFI HX2 HD2 HB2 HRX
        have d0 := HD3.out.c0; have d1 := HD3.out.c1; have d2 := HD3.out.c2; have d3 := HD3.out.c3; have d4 := HD3.out.c4; have d5 := HD3.out.c5
        have f0 := HD3.out.f 0; have f1 := HD3.out.f 1; have f2 := HD3.out.f 2; have f3 := HD3.out.f 3; have f4 := HD3.out.f 4; have f5 := HD3.out.f 5
        go_wp2
        rw [stS_fold, stS_fold]
        have D4 := stS_box (s := X) (h := h3) HD3.out
        have q0 := (stS_box (s := X) (h := h3) D4).c0; have q1 := (stS_box (s := X) (h := h3) D4).c1; have q2 := (stS_box (s := X) (h := h3) D4).c2; have q3 := (stS_box (s := X) (h := h3) D4).c3; have q4 := (stS_box (s := X) (h := h3) D4).c4; have q5 := (stS_box (s := X) (h := h3) D4).c5
        refine bodyPost_ret (v := .tuple #[sval X h3, .int .i64 0]) (by simp [results, Try.results51, sval, go_sem, q0, q1, q2, q3, q4, q5]) rfl ⟨h3, by rw [HV.out], ?_, ?_⟩
        · rw [HV.out]
          exact (stS_own (stS_own HO3.out (by have := HL2.out; omega)) (by have := HL2.out; omega)).mono (by have := HL2.out; omega) (by rw [stS_size, stS_size]; exact Nat.le_refl _)
        · exact stS_below (stS_below HB3.out (by omega)) (by omega)
end Go.Proofs.Ytiemfklonhlnnaa.Lay

namespace Go.Proofs.Ytiemfklonhlnnaa.Lay
open Go.RowKit Go.Shelf Go.Sort Go.Proofs.Ytiemfklonhlnnaa Go.Proofs.Ytiemfklonhlnnaa.Occ Go.Proofs.Ytiemfklonhlnnaa.Slo

theorem getD_zeros (k i : Nat) : (List.replicate k (0 : Int)).getD i 0 = 0 := by
  rw [List.getD_eq_getElem?_getD, List.getElem?_replicate]
  split <;> rfl
theorem occ_zeros (k i : Nat) : occB (List.replicate k (0 : Int)) i = false := by
  unfold occB wd
  rw [getD_zeros]
  simp
theorem occs_zeros (k f d : Nat) : occs (List.replicate k (0 : Int)) f d = [] := by
  unfold occs
  rw [List.filter_eq_nil_iff]
  intro a _
  rw [occ_zeros]; simp
theorem ok_empty {g n : Nat} (l : Int) (h : fitsB (g : Int) (n : Int) = true) : Ok { emptyV g n with laid := l } g (n / g) := by
  obtain ⟨h1, h2, h3, q, hq, hq1, hq2, h4, h5⟩ := fits_nat h
  refine ⟨rfl, h1, h2, h4, ?_, ?_, ?_, ?_, ?_, ?_, ?_, ?_, ?_, ?_⟩
  · show (List.replicate n (0 : Int)).length = _
    rw [List.length_replicate, hq2]; exact hq
  · rw [hq2]; exact hq1
  · show (List.replicate n (0 : Int)).length ≤ _
    rw [List.length_replicate]; exact h3
  · rw [hq2]; exact h5
  · show (List.replicate n (0 : Int)).length = (List.replicate n (0 : Int)).length
    rfl
  · show (List.replicate ((n + 63) / 64) (0 : Int)).length = ((List.replicate n (0 : Int)).length + 63) / 64
    rw [List.length_replicate, List.length_replicate]
  · intro i _ _; exact occ_zeros _ _
  · show (List.replicate (n / g) (0 : Int)).length = _
    rw [List.length_replicate]
  · intro i _ _; exact ⟨getD_zeros _ _, getD_zeros _ _⟩
  · intro k _
    show (List.replicate (n / g) (0 : Int)).getD k 0 = ((occs (List.replicate ((n + 63) / 64) (0 : Int)) (k * g) g).length : Int)
    rw [getD_zeros, occs_zeros]; rfl
theorem zeros_u64 (k : Nat) : U64 (List.replicate k (0 : Int)) := by
  intro z hz
  have := List.eq_of_mem_replicate hz
  omega
/-- What is told of a wide array. -/
structure WideK (s : Sl) (n : Int) : Prop where
  ok : okS (wideV s n) = true
  wf : (wideV s n).Wf
  len : ((wideV s n).ks.length : Int) = n
  g : ∃ g q, Ok (wideV s n) g q
theorem wide_k {s : Sl} {n : Int} (W : s.Wf) (h : fitsB s.seg n = true) : WideK s n := by
  obtain ⟨h1, h2, h3, h4, h5, h6, h7⟩ := fitsB_iff.1 h
  have e1 : ((s.seg.toNat : Nat) : Int) = s.seg := by omega
  have e2 : ((n.toNat : Nat) : Int) = n := by omega
  have o := ok_empty (g := s.seg.toNat) (n := n.toNat) s.laid (by rw [e1, e2]; exact h)
  exact ⟨o.ok, o.wf (zeros_u64 _) W.laid, by show ((List.replicate n.toNat (0 : Int)).length : Int) = n; rw [List.length_replicate, e2], ⟨_, _, o⟩⟩
theorem overSV_wide {s : Sl} {n : Int} {ps : List (Int × Int)} (W : s.Wf) (h : fitsB s.seg n = true) : overSV (wideV s n) 0 n ps = if n < ps.length then (noneS, 2) else (spreadV (wideV s n) 0 n.toNat ps, 0) := by
  have k := wide_k W h
  obtain ⟨g, q, o⟩ := k.g
  have hn := o.n1
  have hl := k.len
  split
  · rename_i hlt
    unfold overSV
    rw [chkS_yes k.ok]
    have hm : Spr.mayB (ps.length : Int) 0 n = false := by
      cases e : Spr.mayB (ps.length : Int) 0 n
      · rfl
      · have := Spr.mayB_iff.1 e; omega
    have hp : Spr.placesV (ps.length : Int) 0 n = ([], 2) := by unfold Spr.placesV; rw [hm]; rfl
    rw [hp]; simp
  · rename_i hge
    rw [overSV_ok (askS_in k.ok |> fun e => by rw [show inB ((wideV s n).ks.length : Int) 0 n = true from inB_iff.2 ⟨by omega, by omega, by omega⟩]; exact e) (by omega)]
    rfl
theorem intoSV_of {s : Sl} {n : Int} {ps : List (Int × Int)} (hok : okS s = true) : intoSV s n ps = if fitsB s.seg n = false then (noneS, 2) else if n < ps.length then (noneS, 2) else (spreadV (wideV s n) 0 n.toNat ps, 0) := by
  unfold intoSV
  rw [chkS_yes hok]
  simp only [ne_eq, not_true_eq_false, if_false]
  by_cases h : fitsB s.seg n = false
  · rw [if_pos h, if_pos (.inl h)]
  · rw [if_neg h]
    by_cases h2 : n < ps.length
    · rw [if_pos h2, if_pos (.inr h2)]
    · rw [if_neg h2, if_neg (by rintro (h3 | h3) <;> contradiction)]
theorem intoSV_bad {s : Sl} {n : Int} {ps : List (Int × Int)} (hok : okS s = false) : intoSV s n ps = (noneS, 8) := by
  unfold intoSV; rw [chkS_no hok]; simp
end Go.Proofs.Ytiemfklonhlnnaa.Lay

namespace Go.Proofs.Ytiemfklonhlnnaa.Lay
open Go.RowKit Go.Shelf Go.Sort Go.Proofs.Ytiemfklonhlnnaa Go.Proofs.Ytiemfklonhlnnaa.Occ Go.Proofs.Ytiemfklonhlnnaa.Slo
attribute [local go_sem] sval Oper.semAt_some
set_option maxRecDepth 100000 in
set_option maxHeartbeats 8000000 in
theorem Into_any (s : Sl) (h : Hd) (n : Int) (al : Option Addr) (cl : Nat) (ps : List (Int × Int)) (w : World) (W : s.Wf) (R : SRd w s h) (wn : (Lit.int .i64 n).wf = true) (hrp : Rd2 w al ps) (lp : ps.length ≤ 1000000) :
    Calls Try.prog 36 #[sval s h, .int .i64 n, .slice al ps.length cl] w fun e w' => AnsS (intoSV s n ps) w e w' := by
  have HC := Lib.hid (sCheck_any s h (twoW w s h (.cells #[.int .i64 0, .slice Option.none 0 0, .slice Option.none 0 0, .slice Option.none 0 0, .slice Option.none 0 0, .int .u64 0] 29)) W (R.mono (twoW_below w s h _) (Nat.le_refl _)))
  have HN := Lib.hid (fun w1 => New_any s.seg n w1 W.seg wn)
  have HB0 := Lib.hid (twoW_below w s h (.cells #[.int .i64 0, .slice Option.none 0 0, .slice Option.none 0 0, .slice Option.none 0 0, .slice Option.none 0 0, .int .u64 0] 29))
  have HX0 := Lib.hid (twoW_box w s h (.cells #[.int .i64 0, .slice Option.none 0 0, .slice Option.none 0 0, .slice Option.none 0 0, .slice Option.none 0 0, .int .u64 0] 29))
  have HZ0 := Lib.hid (twoW_zero w s h)
  have HS0 := Lib.hid (twoW_size w s h (.cells #[.int .i64 0, .slice Option.none 0 0, .slice Option.none 0 0, .slice Option.none 0 0, .slice Option.none 0 0, .int .u64 0] 29))
  cases hok : okS s
  case false =>
    have HV := Lib.hid (intoSV_bad (n := n) (ps := ps) hok)
    rw [chkS_no hok] at HC
    generalize intoSV s n ps = LV at *
    clear W R hrp lp hok HN

    unfold sval at *
    go_enter Try.func36, Try.ntmps36
    go_wp2_with fail
    rw [twoW_fold]
    refine HC.out.mono ?_
    rintro e w1 ⟨rfl, hb⟩

    have HB1 : Hid (Below w.heap.size w w1) := Lib.hid (HB0.out.trans (hb.mono HB0.out.size))
    have HX1 := Lib.hid (HX0.out.below hb (by have := HS0.out; omega))
    have HD1 := Lib.hid (HZ0.out.below hb (by have := HS0.out; omega))
    have HL1 : Hid (w.heap.size + 2 ≤ w1.heap.size) := Lib.hid (by have := hb.size; have := HS0.out; omega)
    clear hb HB0 HX0 HZ0 HS0
    generalize twoW w s h (.cells #[.int .i64 0, .slice Option.none 0 0, .slice Option.none 0 0, .slice Option.none 0 0, .slice Option.none 0 0, .int .u64 0] 29) = w0 at *

    have d0 := HD1.out.c0; have d1 := HD1.out.c1; have d2 := HD1.out.c2; have d3 := HD1.out.c3; have d4 := HD1.out.c4; have d5 := HD1.out.c5
    have f0 := HD1.out.f 0; have f1 := HD1.out.f 1; have f2 := HD1.out.f 2; have f3 := HD1.out.f 3; have f4 := HD1.out.f 4; have f5 := HD1.out.f 5

    go_wp2
    rw [stZ_fold]
    have q0 := (stS_box (s := noneS) (h := noneH) HD1.out).c0; have q1 := (stS_box (s := noneS) (h := noneH) HD1.out).c1; have q2 := (stS_box (s := noneS) (h := noneH) HD1.out).c2; have q3 := (stS_box (s := noneS) (h := noneH) HD1.out).c3; have q4 := (stS_box (s := noneS) (h := noneH) HD1.out).c4; have q5 := (stS_box (s := noneS) (h := noneH) HD1.out).c5
    refine bodyPost_ret (v := .tuple #[sval noneS noneH, .int .i64 8]) (by simp [results, Try.results36, sval, go_sem, q0, q1, q2, q3, q4, q5]) rfl ⟨noneH, by rw [HV.out], by rw [HV.out]; exact noneS_own _ _ _, stS_below HB1.out (by omega)⟩
  case true =>
    have HV0 := Lib.hid (intoSV_of (n := n) (ps := ps) hok)
    rw [chkS_yes hok] at HC
    cases hf : fitsB s.seg n
    case false =>
      have HV : Hid (intoSV s n ps = (noneS, 2)) := Lib.hid (by rw [HV0.out, if_pos hf])
      rw [show newSV s.seg n = (noneS, 2) by unfold newSV; rw [hf]; rfl] at HN
      clear HV0
      generalize intoSV s n ps = LV at *
      clear W R hrp lp hok hf wn

      unfold sval at *
      go_enter Try.func36, Try.ntmps36
      go_wp2_with fail
      rw [twoW_fold]
      refine HC.out.mono ?_
      rintro e w1 ⟨rfl, hb⟩

      have HB1 : Hid (Below w.heap.size w w1) := Lib.hid (HB0.out.trans (hb.mono HB0.out.size))
      have HX1 := Lib.hid (HX0.out.below hb (by have := HS0.out; omega))
      have HD1 := Lib.hid (HZ0.out.below hb (by have := HS0.out; omega))
      have HL1 : Hid (w.heap.size + 2 ≤ w1.heap.size) := Lib.hid (by have := hb.size; have := HS0.out; omega)
      clear hb HB0 HX0 HZ0 HS0
      generalize twoW w s h (.cells #[.int .i64 0, .slice Option.none 0 0, .slice Option.none 0 0, .slice Option.none 0 0, .slice Option.none 0 0, .int .u64 0] 29) = w0 at *
      have c0 := HX1.out.c0
      go_wp2_with fail

      refine (HN.out _).mono ?_
      rintro e w2 ⟨h2, rfl, ho, hb⟩
      have HO2 := Lib.hid ho
      clear ho

      have HB2 : Hid (Below w.heap.size w w2) := Lib.hid (HB1.out.trans (hb.mono HB1.out.size))
      have HD2 := Lib.hid (HD1.out.below hb (by have := HL1.out; omega))
      have HL2 : Hid (w.heap.size + 2 ≤ w2.heap.size) := Lib.hid (by have := hb.size; have := HL1.out; omega)
      clear hb HD1 HB1

      have HD2a := Lib.hid (HD2.out.al (o := (.cells #[.int .i64 noneS.seg, .slice h2.aw noneS.ws.length h2.cw, .slice h2.ak noneS.ks.length h2.ck, .slice h2.av noneS.vs.length h2.cv, .slice h2.ac noneS.cs.length h2.cc, .int .u64 noneS.laid] 29)) (by have := HL2.out; omega))

      have d0 := HD2a.out.c0; have d1 := HD2a.out.c1; have d2 := HD2a.out.c2; have d3 := HD2a.out.c3; have d4 := HD2a.out.c4; have d5 := HD2a.out.c5
      have f0 := HD2a.out.f 0; have f1 := HD2a.out.f 1; have f2 := HD2a.out.f 2; have f3 := HD2a.out.f 3; have f4 := HD2a.out.f 4; have f5 := HD2a.out.f 5
      go_wp2
      rw [stZ_fold]
      have q0 := (stS_box (s := noneS) (h := noneH) HD2a.out).c0; have q1 := (stS_box (s := noneS) (h := noneH) HD2a.out).c1; have q2 := (stS_box (s := noneS) (h := noneH) HD2a.out).c2; have q3 := (stS_box (s := noneS) (h := noneH) HD2a.out).c3; have q4 := (stS_box (s := noneS) (h := noneH) HD2a.out).c4; have q5 := (stS_box (s := noneS) (h := noneH) HD2a.out).c5
      refine bodyPost_ret (v := .tuple #[sval noneS noneH, .int .i64 2]) (by simp [results, Try.results36, sval, go_sem, q0, q1, q2, q3, q4, q5]) rfl ⟨noneH, by rw [HV.out], by rw [HV.out]; exact noneS_own _ _ _, stS_below (HB2.out.alloc HB2.out.size _) (by omega)⟩
    case true =>
      have HV1 : Hid (intoSV s n ps = overSV (wideV s n) 0 n ps) := Lib.hid (by rw [HV0.out, if_neg (by rw [hf]; simp), overSV_wide W hf])
      have K := wide_k W hf
      have HOV := Lib.hid (fun h1 w1 (hb : Below w.heap.size w w1) (hr : SRd w1 (wideV s n) h1) => over_any (wideV s n) h1 0 n al cl ps w1 K.wf hr (hrp.mono hb (Nat.le_refl _)) lp)
      rw [show newSV s.seg n = (emptyV s.seg.toNat n.toNat, 0) by unfold newSV; rw [hf]; rfl] at HN
      have HWD : Hid (wideV s n = { emptyV s.seg.toNat n.toNat with laid := s.laid }) := Lib.hid rfl
      rw [← HV1.out] at HOV
      clear HV0 HV1 K
      generalize intoSV s n ps = LV at *
      obtain ⟨X, ex⟩ := LV
      generalize emptyV s.seg.toNat n.toNat = E at *
      generalize wideV s n = WD at *
      have hwd := HWD.out
      subst hwd
      clear HWD W R hrp lp hok hf wn

      unfold sval at *
      go_enter Try.func36, Try.ntmps36
      go_wp2_with fail
      rw [twoW_fold]
      refine HC.out.mono ?_
      rintro e w1 ⟨rfl, hb⟩

      have HB1 : Hid (Below w.heap.size w w1) := Lib.hid (HB0.out.trans (hb.mono HB0.out.size))
      have HX1 := Lib.hid (HX0.out.below hb (by have := HS0.out; omega))
      have HD1 := Lib.hid (HZ0.out.below hb (by have := HS0.out; omega))
      have HL1 : Hid (w.heap.size + 2 ≤ w1.heap.size) := Lib.hid (by have := hb.size; have := HS0.out; omega)
      clear hb HB0 HX0 HZ0 HS0
      generalize twoW w s h (.cells #[.int .i64 0, .slice Option.none 0 0, .slice Option.none 0 0, .slice Option.none 0 0, .slice Option.none 0 0, .int .u64 0] 29) = w0 at *
      have c0 := HX1.out.c0
      go_wp2_with fail
      clear c0

      refine (HN.out _).mono ?_
      rintro e w2 ⟨h2, rfl, ho, hb⟩
      have HO2 := Lib.hid ho
      clear ho

      have HB2 : Hid (Below w.heap.size w w2) := Lib.hid (HB1.out.trans (hb.mono HB1.out.size))
      have HX2 := Lib.hid (HX1.out.below hb (by have := HL1.out; omega))
      have HD2 := Lib.hid (HD1.out.below hb (by have := HL1.out; omega))
      have HL2 : Hid (w.heap.size + 2 ≤ w2.heap.size) := Lib.hid (by have := hb.size; have := HL1.out; omega)
      clear hb HD1 HB1

      have hsz : (allocS w2 { E with laid := s.laid } h2).heap.size = w2.heap.size + 1 := allocS_size _ _ _
      have HR2 : Hid (SRd (allocS w2 { E with laid := s.laid } h2) { E with laid := s.laid } h2) := Lib.hid (SRd.mono ⟨HO2.out.rd.fw, HO2.out.rd.fk, HO2.out.rd.fv, HO2.out.rd.fc⟩ (allocS_below w2 _ h2) (Nat.le_refl _))
      have HB3 : Hid (Below w.heap.size w (allocS w2 { E with laid := s.laid } h2)) := Lib.hid (HB2.out.trans ((allocS_below w2 _ h2).mono HB2.out.size))
      have HD3 := Lib.hid (HD2.out.below (allocS_below w2 { E with laid := s.laid } h2) (by have := HL2.out; omega))
      have HL3 : Hid (w.heap.size + 2 ≤ (allocS w2 { E with laid := s.laid } h2).heap.size) := Lib.hid (by have := HL2.out; omega)
      have c5 := (HX2.out.al (o := (.cells #[.int .i64 E.seg, .slice h2.aw E.ws.length h2.cw, .slice h2.ak E.ks.length h2.ck, .slice h2.av E.vs.length h2.cv, .slice h2.ac E.cs.length h2.cc, .int .u64 E.laid] 29)) (by have := HL2.out; omega)).c5
      have hne2 : w2.heap.size ≠ w.heap.size := by have := HL2.out; omega
      go_wp2_with fail
      rw [show w2.alloc (.cells #[.int .i64 E.seg, .slice h2.aw E.ws.length h2.cw, .slice h2.ak E.ks.length h2.ck, .slice h2.av E.vs.length h2.cv, .slice h2.ac E.cs.length h2.cc, .int .u64 s.laid] 29) = allocS w2 { E with laid := s.laid } h2 from rfl]
      clear c5 hne2 HB2 HD2 HL2 HX2 HO2 hsz
      generalize allocS w2 { E with laid := s.laid } h2 = w3 at *
      refine (HOV.out h2 _ HB3.out HR2.out).mono ?_
      rintro e w4 ⟨h4, rfl, ho, hb⟩
      have HO := Lib.hid ho
      clear ho HR2 HOV

      have HB4 : Hid (Below w.heap.size w w4) := Lib.hid (HB3.out.trans (hb.mono HB3.out.size))
      have HD4 := Lib.hid (HD3.out.below hb (by have := HL3.out; omega))
      have HL4 : Hid (w.heap.size + 2 ≤ w4.heap.size) := Lib.hid (by have := hb.size; have := HL3.out; omega)
      clear hb HD3 HB3

      have d0 := HD4.out.c0; have d1 := HD4.out.c1; have d2 := HD4.out.c2; have d3 := HD4.out.c3; have d4 := HD4.out.c4; have d5 := HD4.out.c5
      have f0 := HD4.out.f 0; have f1 := HD4.out.f 1; have f2 := HD4.out.f 2; have f3 := HD4.out.f 3; have f4 := HD4.out.f 4; have f5 := HD4.out.f 5

      go_wp2
      rw [stS_fold]
      have q0 := (stS_box (s := X) (h := h4) HD4.out).c0; have q1 := (stS_box (s := X) (h := h4) HD4.out).c1; have q2 := (stS_box (s := X) (h := h4) HD4.out).c2; have q3 := (stS_box (s := X) (h := h4) HD4.out).c3; have q4 := (stS_box (s := X) (h := h4) HD4.out).c4; have q5 := (stS_box (s := X) (h := h4) HD4.out).c5
      refine bodyPost_ret (v := .tuple #[sval X h4, .int .i64 ex]) (by simp [results, Try.results36, sval, go_sem, q0, q1, q2, q3, q4, q5]) rfl ⟨h4, rfl, ?_, ?_⟩
      · exact (stS_own HO.out (by have := HL3.out; omega)).mono (by have := HL3.out; omega) (by rw [stS_size]; exact Nat.le_refl _)
      · exact stS_below HB4.out (by omega)

end Go.Proofs.Ytiemfklonhlnnaa.Lay
