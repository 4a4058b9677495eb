/- Operations of a region that come up in whatever order, each making what the others do not look at. No program in sight. Operations of a region in whatever order, some without a place for their value. No program in sight. The law SlotsNames: its walk. -/
import Derived.Test.YtfdkaahkhgljdaaMap
import Derived.Laws.MakeOwn
set_option linter.unusedSimpArgs false
set_option linter.unusedVariables false
namespace Go.Proofs.Ytfdkaahkhgljdaa.Mix
open Go Go.RowKit

/-- An invariant between operations that come up in whatever order. -/
theorem wpAny_any {P : Program} {md : Region.Mode} {ops : Array Oper} {Q : Exit → Act → World → Prop} (I : List Nat → Act → World → Prop) (le : Array Bool) (fuel : Nat)
    (step : ∀ todo i a W, i ∈ todo → I todo a W → wpOp P ops Q i (fun a' W' => I (todo.erase i) a' W') a W)
    (tail : ∀ a W, I [] a W → wpAny P md ops Q fuel le a W) :
    ∀ (f : Nat) (todo : List Nat) (listed : Array Bool) (a : Act) (W : World), mkB md ops le f todo listed = true → todo.length = f → I todo a W → wpAny P md ops Q (fuel + f) listed a W
  | 0, todo, listed, a, W, hB, hl, hI => by
    have e : listed = le := of_decide_eq_true hB
    subst e
    rw [List.eq_nil_of_length_eq_zero hl] at hI
    exact tail a W hI
  | f + 1, todo, listed, a, W, hB, hl, hI => by
    simp only [mkB, Bool.and_eq_true, Bool.not_eq_true', List.isEmpty_eq_false_iff] at hB
    show wpAny P md ops Q ((fuel + f) + 1) listed a W
    refine ⟨fun h => absurd h hB.1, fun i hi => ?_⟩
    have h2 := List.all_eq_true.1 hB.2 i hi
    simp only [Bool.and_eq_true] at h2
    have hit : i ∈ todo := by simpa using h2.1
    exact wpOp_mono (fun a' W' h' => wpAny_any I le fuel step tail f (todo.erase i) _ a' W' h2.2 (by rw [List.length_erase_of_mem hit, hl]; rfl) h') (step todo i a W hit hI)

/-- Values put into their slots, as far as they are there. -/
def putL (a : Act) : List (Nat × Tmp) → (Nat → Option Value) → Act
  | [], _ => a
  | (i, d) :: r, B => match B i with
    | none => putL a r B
    | some v => (putL a r B).put (some d) v
def updV (B : Nat → Option Value) (i : Nat) (v : Value) : Nat → Option Value := fun j => if j = i then some v else B j
theorem putL_congr (a : Act) : ∀ (ds : List (Nat × Tmp)) (B B' : Nat → Option Value), (∀ p ∈ ds, B p.1 = B' p.1) → putL a ds B = putL a ds B'
  | [], _, _, _ => rfl
  | (i, d) :: r, B, B', h => by
    have h1 : B i = B' i := h (i, d) List.mem_cons_self
    have h2 := putL_congr a r B B' fun p hp => h p (List.mem_cons_of_mem _ hp)
    unfold putL
    rw [h1, h2]
theorem putL_none (a : Act) : ∀ ds : List (Nat × Tmp), putL a ds (fun _ => none) = a
  | [] => rfl
  | (i, d) :: r => by unfold putL; exact putL_none a r
theorem putL_upd (a : Act) : ∀ (ds : List (Nat × Tmp)) (B : Nat → Option Value) (i : Nat) (d : Tmp) (v : Value), (ds.map (·.1)).Nodup → (ds.map (·.2)).Nodup → (i, d) ∈ ds → (putL a ds B).put (some d) v = putL a ds (updV B i v)
  | [], _, _, _, _, _, _, h => by cases h
  | (j, e) :: r, B, i, d, v, h1, h2, h => by
    simp only [List.map_cons, List.nodup_cons] at h1 h2
    rcases List.mem_cons.1 h with h3 | h3
    · obtain ⟨rfl, rfl⟩ := Prod.mk.inj h3
      have e1 : putL a r (updV B i v) = putL a r B := putL_congr a r _ _ fun p hp => by
        unfold updV
        rw [if_neg]
        intro h4
        exact h1.1 (List.mem_map.2 ⟨p, hp, h4⟩)
      have e2 : updV B i v i = some v := by unfold updV; rw [if_pos rfl]
      unfold putL
      rw [e1, e2]
      cases B i with
      | none => rfl
      | some u => simp [Act.put]
    · have hj : j ≠ i := fun e => h1.1 (by rw [e]; exact List.mem_map.2 ⟨(i, d), h3, rfl⟩)
      have he : e ≠ d := fun e' => h2.1 (by rw [e']; exact List.mem_map.2 ⟨(i, d), h3, rfl⟩)
      have e1 := putL_upd a r B i d v h1.2 h2.2 h3
      have e2 : updV B i v j = B j := by unfold updV; rw [if_neg hj]
      unfold putL
      rw [e2, ← e1]
      cases B j with
      | none => rfl
      | some u => exact Act.put_comm _ u v fun d' hd' hd => by cases hd'; cases hd; exact he rfl
theorem putL_exec {ops : Array Oper} (o : Oper) (hs : ∀ cs b, o.op ≠ .select cs b) (a : Act) : ∀ (ds : List (Nat × Tmp)) (B : Nat → Option Value), (∀ q ∈ ds, q.2 ∉ o.looksAt ops) →
    execOp (putL a ds B).eval o = execOp a.eval o ∧ Region.wanted o (yielded ops (putL a ds B).tmps) = Region.wanted o (yielded ops a.tmps)
  | [], _, _ => ⟨rfl, rfl⟩
  | (j, e) :: r, B, h => by
    obtain ⟨h1, h2⟩ := putL_exec o hs a r B fun q hq => h q (List.mem_cons_of_mem _ hq)
    have h3 : ∀ d, some e = some d → d ∉ o.looksAt ops := fun d hd => by cases hd; exact h (j, e) List.mem_cons_self
    unfold putL
    cases B j with
    | none => exact ⟨h1, h2⟩
    | some u => exact ⟨(execOp_put o hs _ (some e) u h3).trans h1, (wanted_put o _ (some e) u h3).trans h2⟩

theorem wpAny_rows {P : Program} {md : Region.Mode} {ops : Array Oper} {Q : Exit → Act → World → Prop} {w : World} {a : Act} {listed : Array Bool} (le : Array Bool) (fuel : Nat) (ds : List (Nat × Tmp)) (F : Nat → Value → World → Prop)
    (hd1 : (ds.map (·.1)).Nodup) (hd2 : (ds.map (·.2)).Nodup)
    (hchk : ∀ p ∈ ds, ∃ o, ops[p.1]? = some o ∧ o.dst = some p.2 ∧ (∀ cs b, o.op ≠ .select cs b) ∧ (∀ q ∈ ds, q.2 ∉ o.looksAt ops) ∧ Region.wanted o (yielded ops a.tmps) = true ∧
      ∀ W, Below w.heap.size w W → ∃ v W', (execOp a.eval o).run P W = .ok (.value v) W' ∧ Below W.heap.size W W' ∧ F p.1 v W')
    (mono : ∀ i v W W', F i v W → Below W.heap.size W W' → F i v W')
    (hB : mkB md ops le ds.length (ds.map (·.1)) listed = true)
    (tail : ∀ B W, Below w.heap.size w W → (∀ p ∈ ds, ∃ v, B p.1 = some v ∧ F p.1 v W) → wpAny P md ops Q fuel le (putL a ds B) W) :
    wpAny P md ops Q (fuel + ds.length) listed a w := by
  have key := wpAny_any (P := P) (md := md) (ops := ops) (Q := Q)
    (fun todo a' W => ∃ B, a' = putL a ds B ∧ Below w.heap.size w W ∧ (∀ i ∈ todo, i ∈ ds.map (·.1)) ∧ (∀ p ∈ ds, p.1 ∉ todo → B p.1 ≠ none) ∧ ∀ p ∈ ds, ∀ v, B p.1 = some v → F p.1 v W) le fuel ?step ?tail ds.length (ds.map (·.1)) listed a w hB (by simp) ?init
  case init => exact ⟨fun _ => none, (putL_none a ds).symm, Below.refl _ _, fun i hi => hi, fun p hp hn => absurd (List.mem_map.2 ⟨p, hp, rfl⟩) hn, fun p hp v hv => by cases hv⟩
  case tail =>
    rintro a' W ⟨B, rfl, hb, -, hn, hF⟩
    refine tail B W hb fun p hp => ?_
    obtain ⟨v, hv⟩ := Option.ne_none_iff_exists'.1 (hn p hp (by simp))
    exact ⟨v, hv, hF p hp v hv⟩
  case step =>
    rintro todo i a' W hi ⟨B, rfl, hb, ht, hn, hF⟩
    obtain ⟨⟨i', d⟩, hp, rfl⟩ := List.mem_map.1 (ht i hi)
    obtain ⟨o, ho, hd, hs, hl, hw, hr⟩ := hchk _ hp
    obtain ⟨v, W', hrun, hbW, hFv⟩ := hr W hb
    obtain ⟨e1, e2⟩ := putL_exec o hs a ds B hl
    dsimp only at ho hd hrun hFv ⊢
    unfold wpOp
    simp only [ho]
    rw [if_pos (by rw [e2]; exact hw)]
    left
    unfold Oper.wp
    rw [e1, hrun, Oper.upon_value, hd]
    show ∃ B', (putL a ds B).put (some d) v = putL a ds B' ∧ _
    refine ⟨updV B i' v, putL_upd a ds B i' d v hd1 hd2 hp, hb.trans (hbW.mono hb.size), fun j hj => ht j (List.mem_of_mem_erase hj), fun q hq hqn => ?_, fun q hq u hu => ?_⟩
    · unfold updV
      by_cases h : q.1 = i'
      · rw [if_pos h]; simp
      · rw [if_neg h]
        refine hn q hq fun hm => hqn ?_
        exact (List.mem_erase_of_ne h).2 hm
    · unfold updV at hu
      by_cases h : q.1 = i'
      · rw [if_pos h] at hu; cases hu; rw [h]; exact hFv
      · rw [if_neg h] at hu; exact mono _ _ _ _ (hF q hq u hu) hbW
  exact key

theorem putL_size (a : Act) : ∀ (ds : List (Nat × Tmp)) (B : Nat → Option Value), (putL a ds B).tmps.size = a.tmps.size
  | [], _ => rfl
  | (j, e) :: r, B => by
    have := putL_size a r B
    unfold putL
    cases B j with
    | none => exact this
    | some u => simp [Act.put, this]
theorem putL_eval (a : Act) : ∀ (ds : List (Nat × Tmp)) (B : Nat → Option Value) (i : Nat) (d : Tmp) (v : Value), (ds.map (·.1)).Nodup → (ds.map (·.2)).Nodup → (i, d) ∈ ds → d < a.tmps.size → B i = some v → (putL a ds B).eval (.tmp d) = v
  | [], _, _, _, _, _, _, h, _, _ => by cases h
  | (j, e) :: r, B, i, d, v, h1, h2, h, hd, hv => by
    simp only [List.map_cons, List.nodup_cons] at h1 h2
    rcases List.mem_cons.1 h with h3 | h3
    · obtain ⟨rfl, rfl⟩ := Prod.mk.inj h3
      have := putL_size a r B
      unfold putL
      rw [hv]
      simp [Act.put, Act.eval, this, hd]
    · have he : e ≠ d := fun e' => h2.1 (by rw [e']; exact List.mem_map.2 ⟨(i, d), h3, rfl⟩)
      have e1 := putL_eval a r B i d v h1.2 h2.2 h3 hd hv
      unfold putL
      cases B j with
      | none => exact e1
      | some u => exact (Act.eval_put fun d' hd' hx => by cases hd'; cases hx; exact he rfl).trans e1
theorem putL_ne (a : Act) : ∀ (ds : List (Nat × Tmp)) (B : Nat → Option Value) (d : Tmp), (∀ q ∈ ds, q.2 ≠ d) → (putL a ds B).eval (.tmp d) = a.eval (.tmp d)
  | [], _, _, _ => rfl
  | (j, e) :: r, B, d, h => by
    have e1 := putL_ne a r B d fun q hq => h q (List.mem_cons_of_mem _ hq)
    have he := h (j, e) List.mem_cons_self
    unfold putL
    cases B j with
    | none => exact e1
    | some u => exact (Act.eval_put fun d' hd' hx => by cases hd'; cases hx; exact he rfl).trans e1
/-- In every order just those of 'todo' come up, each behind those that it hangs on, till 'le' is reached. -/
def mkD (md : Region.Mode) (ops : Array Oper) (le : Array Bool) (deps : Nat → List Nat) : Nat → List Nat → Array Bool → Bool
  | 0, _, listed => decide (listed = le)
  | f + 1, todo, listed => !(Region.ready md ops listed).isEmpty && (Region.ready md ops listed).all fun i => todo.contains i && ((deps i).all (fun j => !todo.contains j) && mkD md ops le deps f (todo.erase i) (listed.setIfInBounds i true))
theorem wpAny_dagI {P : Program} {md : Region.Mode} {ops : Array Oper} {Q : Exit → Act → World → Prop} (I : List Nat → Act → World → Prop) (le : Array Bool) (fuel : Nat) (deps : Nat → List Nat)
    (step : ∀ todo i a W, i ∈ todo → (∀ j ∈ deps i, j ∉ todo) → I todo a W → wpOp P ops Q i (fun a' W' => I (todo.erase i) a' W') a W)
    (tail : ∀ a W, I [] a W → wpAny P md ops Q fuel le a W) :
    ∀ (f : Nat) (todo : List Nat) (listed : Array Bool) (a : Act) (W : World), mkD md ops le deps f todo listed = true → todo.length = f → I todo a W → wpAny P md ops Q (fuel + f) listed a W
  | 0, todo, listed, a, W, hB, hl, hI => by
    have e : listed = le := of_decide_eq_true hB
    subst e
    rw [List.eq_nil_of_length_eq_zero hl] at hI
    exact tail a W hI
  | f + 1, todo, listed, a, W, hB, hl, hI => by
    simp only [mkD, Bool.and_eq_true, Bool.not_eq_true', List.isEmpty_eq_false_iff] at hB
    show wpAny P md ops Q ((fuel + f) + 1) listed a W
    refine ⟨fun h => absurd h hB.1, fun i hi => ?_⟩
    have h2 := List.all_eq_true.1 hB.2 i hi
    simp only [Bool.and_eq_true] at h2
    have hit : i ∈ todo := by simpa using h2.1
    have hde : ∀ j ∈ deps i, j ∉ todo := fun j hj => by have := List.all_eq_true.1 h2.2.1 j hj; simpa using this
    exact wpOp_mono (fun a' W' h' => wpAny_dagI I le fuel deps step tail f (todo.erase i) _ a' W' h2.2.2 (by rw [List.length_erase_of_mem hit, hl]; rfl) h') (step todo i a W hit hde hI)
/-- Operations that hang on one another, in whatever order they come up. -/
theorem wpAny_dag {P : Program} {md : Region.Mode} {ops : Array Oper} {Q : Exit → Act → World → Prop} {w : World} {a : Act} {listed : Array Bool} (le : Array Bool) (fuel : Nat) (ds : List (Nat × Tmp)) (deps : Nat → List Nat) (F : Nat → Value → World → Prop)
    (hd1 : (ds.map (·.1)).Nodup) (hd2 : (ds.map (·.2)).Nodup)
    (hop : ∀ p ∈ ds, ∀ B W (K : Act → World → Prop), Below w.heap.size w W → (∀ q ∈ ds, q.1 ∈ deps p.1 → ∃ v, B q.1 = some v ∧ F q.1 v W) →
      (∀ v W', Below W.heap.size W W' → F p.1 v W' → K ((putL a ds B).put (some p.2) v) W') → wpOp P ops Q p.1 K (putL a ds B) W)
    (mono : ∀ i v W W', F i v W → Below W.heap.size W W' → F i v W')
    (hB : mkD md ops le deps ds.length (ds.map (·.1)) listed = true)
    (tail : ∀ B W, Below w.heap.size w W → (∀ p ∈ ds, ∃ v, B p.1 = some v ∧ F p.1 v W) → wpAny P md ops Q fuel le (putL a ds B) W) :
    wpAny P md ops Q (fuel + ds.length) listed a w := by
  have key := wpAny_dagI (P := P) (md := md) (ops := ops) (Q := Q)
    (fun todo a' W => ∃ B, a' = putL a ds B ∧ Below w.heap.size w W ∧ (∀ i ∈ todo, i ∈ ds.map (·.1)) ∧ (∀ p ∈ ds, p.1 ∉ todo → B p.1 ≠ none) ∧ ∀ p ∈ ds, ∀ v, B p.1 = some v → F p.1 v W) le fuel deps ?step ?tail ds.length (ds.map (·.1)) listed a w hB (by simp) ?init
  case init => exact ⟨fun _ => none, (putL_none a ds).symm, Below.refl _ _, fun i hi => hi, fun p hp hn => absurd (List.mem_map.2 ⟨p, hp, rfl⟩) hn, fun p hp v hv => by cases hv⟩
  case tail =>
    rintro a' W ⟨B, rfl, hb, -, hn, hF⟩
    refine tail B W hb fun p hp => ?_
    obtain ⟨v, hv⟩ := Option.ne_none_iff_exists'.1 (hn p hp (by simp))
    exact ⟨v, hv, hF p hp v hv⟩
  case step =>
    rintro todo i a' W hi hde ⟨B, rfl, hb, ht, hn, hF⟩
    obtain ⟨⟨i', d⟩, hp, rfl⟩ := List.mem_map.1 (ht i hi)
    refine hop _ hp B W _ hb (fun q hq hqd => ?_) fun v W' hbW hFv => ?_
    · obtain ⟨v, hv⟩ := Option.ne_none_iff_exists'.1 (hn q hq (hde _ hqd))
      exact ⟨v, hv, hF q hq v hv⟩
    · refine ⟨updV B i' v, putL_upd a ds B i' d v hd1 hd2 hp, hb.trans (hbW.mono hb.size), fun j hj => ht j (List.mem_of_mem_erase hj), fun q hq hqn => ?_, fun q hq u hu => ?_⟩
      · unfold updV
        by_cases h : q.1 = i'
        · rw [if_pos h]; simp
        · rw [if_neg h]
          refine hn q hq fun hm => hqn ?_
          exact (List.mem_erase_of_ne h).2 hm
      · unfold updV at hu
        by_cases h : q.1 = i'
        · rw [if_pos h] at hu; cases hu; rw [h]; exact hFv
        · rw [if_neg h] at hu; exact mono _ _ _ _ (hF q hq u hu) hbW
  exact key
/-- As wpAny_dag, each operation with its own word on what it keeps. -/
theorem wpAny_dagG {P : Program} {md : Region.Mode} {ops : Array Oper} {Q : Exit → Act → World → Prop} {w : World} {a : Act} {listed : Array Bool} (n : Nat) (G : Nat → World → World → Prop) (Z : Nat → World → Prop) (le : Array Bool) (fuel : Nat) (ds : List (Nat × Tmp)) (deps : Nat → List Nat) (F : Nat → Value → World → Prop)
    (hd1 : (ds.map (·.1)).Nodup) (hd2 : (ds.map (·.2)).Nodup)
    (hZ : ∀ i, Z i w)
    (hop : ∀ p ∈ ds, ∀ B W (K : Act → World → Prop), Below n w W → Z p.1 W → (∀ q ∈ ds, q.1 ∈ deps p.1 → ∃ v, B q.1 = some v ∧ F q.1 v W) →
      (∀ v W', G p.1 W W' → F p.1 v W' → K ((putL a ds B).put (some p.2) v) W') → wpOp P ops Q p.1 K (putL a ds B) W)
    (hG : ∀ j W W', G j W W' → Below n W W')
    (mono : ∀ j i v W W', i ≠ j → F i v W → G j W W' → F i v W')
    (monoZ : ∀ j i W W', i ≠ j → Z i W → G j W W' → Z i W')
    (hB : mkD md ops le deps ds.length (ds.map (·.1)) listed = true)
    (tail : ∀ B W, Below n w W → (∀ p ∈ ds, ∃ v, B p.1 = some v ∧ F p.1 v W) → wpAny P md ops Q fuel le (putL a ds B) W) :
    wpAny P md ops Q (fuel + ds.length) listed a w := by
  have key := wpAny_dagI (P := P) (md := md) (ops := ops) (Q := Q)
    (fun todo a' W => ∃ B, a' = putL a ds B ∧ Below n w W ∧ (todo.Nodup ∧ ∀ i ∈ todo, Z i W) ∧ (∀ i ∈ todo, i ∈ ds.map (·.1)) ∧ (∀ p ∈ ds, p.1 ∉ todo → B p.1 ≠ none) ∧ ∀ p ∈ ds, ∀ v, B p.1 = some v → F p.1 v W) le fuel deps ?step ?tail ds.length (ds.map (·.1)) listed a w hB (by simp) ?init
  case init => exact ⟨fun _ => none, (putL_none a ds).symm, Below.refl _ _, ⟨hd1, fun i _ => hZ i⟩, fun i hi => hi, fun p hp hn => absurd (List.mem_map.2 ⟨p, hp, rfl⟩) hn, fun p hp v hv => by cases hv⟩
  case tail =>
    rintro a' W ⟨B, rfl, hb, -, -, hn, hF⟩
    refine tail B W hb fun p hp => ?_
    obtain ⟨v, hv⟩ := Option.ne_none_iff_exists'.1 (hn p hp (by simp))
    exact ⟨v, hv, hF p hp v hv⟩
  case step =>
    rintro todo i a' W hi hde ⟨B, rfl, hb, ⟨hnd, hz⟩, ht, hn, hF⟩
    obtain ⟨⟨i', d⟩, hp, rfl⟩ := List.mem_map.1 (ht i hi)
    refine hop _ hp B W _ hb (hz _ hi) (fun q hq hqd => ?_) fun v W' hbW hFv => ?_
    · obtain ⟨v, hv⟩ := Option.ne_none_iff_exists'.1 (hn q hq (hde _ hqd))
      exact ⟨v, hv, hF q hq v hv⟩
    · refine ⟨updV B i' v, putL_upd a ds B i' d v hd1 hd2 hp, hb.trans (hG _ _ _ hbW), ⟨hnd.erase _, fun j hj => monoZ _ _ _ _ (fun e => by rw [e] at hj; exact (hnd.not_mem_erase) hj) (hz j (List.mem_of_mem_erase hj)) hbW⟩, fun j hj => ht j (List.mem_of_mem_erase hj), fun q hq hqn => ?_, fun q hq u hu => ?_⟩
      · unfold updV
        by_cases h : q.1 = i'
        · rw [if_pos h]; simp
        · rw [if_neg h]
          refine hn q hq fun hm => hqn ?_
          exact (List.mem_erase_of_ne h).2 hm
      · unfold updV at hu
        by_cases h : q.1 = i'
        · rw [if_pos h] at hu; cases hu; rw [h]; exact hFv
        · rw [if_neg h] at hu; exact mono _ _ _ _ _ h (hF q hq u hu) hbW
  exact key
/-- An operation that yields a value. -/
theorem wpOp_value {P : Program} {ops : Array Oper} {Q : Exit → Act → World → Prop} {i : Nat} {o : Oper} {K : Act → World → Prop} {A : Act} {W W' : World} {v : Value} (h0 : ops[i]? = some o) (hw : Region.wanted o (yielded ops A.tmps) = true)
    (hr : (execOp A.eval o).run P W = .ok (.value v) W') (h : K (A.put o.dst v) W') : wpOp P ops Q i K A W := by
  unfold wpOp
  simp only [h0]
  rw [if_pos hw]
  left
  unfold Oper.wp
  rw [hr, Oper.upon_value]
  exact h
/-- A call of a function of the program. -/
theorem wpOp_call {P : Program} {ops : Array Oper} {Q : Exit → Act → World → Prop} {i : Nat} {o : Oper} {K : Act → World → Prop} {A : Act} {W : World} {f : Nat} {args : Array Value} (h0 : ops[i]? = some o) (hw : Region.wanted o (yielded ops A.tmps) = true)
    (hr : (execOp A.eval o).run P W = .ok (.enter f args) W) (h : Calls P f args W fun e w' => ∃ v, e = .returned v ∧ K (A.put o.dst v) w') : wpOp P ops Q i K A W := by
  unfold wpOp
  simp only [h0]
  rw [if_pos hw]
  left
  unfold Oper.wp
  rw [hr]
  simp only [Oper.upon]
  refine Calls.mono h fun e w' he => ?_
  obtain ⟨v, rfl, hk⟩ := he
  exact hk

/-- Some that come in a forced order, then what is left. -/
theorem wpAny_midL {P : Program} {md : Region.Mode} {ops : Array Oper} {Q : Exit → Act → World → Prop} {fuel : Nat} {l2 : Array Bool} :
    ∀ (m : List Bool) (l : List Oper) (k : Nat) (listed : Array Bool) (a : Act) (w : World), (∀ j, l[j]? = ops[k + j]?) → runB md ops m k listed = some l2 →
    wpList P ops (Exit.then (fun a' w' => wpAny P md ops Q fuel l2 a' w') Q) (maskL m l) a w → wpAny P md ops Q (fuel + m.count true) listed a w
  | [], l, k, listed, a, w, _, hB, h => by
    simp only [runB, Option.some.injEq] at hB
    subst hB
    cases l <;> exact h
  | false :: m, l, k, listed, a, w, hl, hB, h => by
    simp only [runB] at hB
    cases l with
    | nil =>
      have := wpAny_midL m [] (k + 1) listed a w (fun j => by have := hl (j + 1); simpa [Nat.add_assoc, Nat.add_comm 1 j] using this) hB (by cases m with | nil => exact h | cons b m => cases b <;> exact h)
      simpa using this
    | cons o l =>
      have := wpAny_midL m l (k + 1) listed a w (fun j => by have := hl (j + 1); simpa [Nat.add_assoc, Nat.add_comm 1 j] using this) hB h
      simpa using this
  | true :: m, l, k, listed, a, w, hl, hB, h => by
    simp only [runB] at hB
    split at hB
    · rename_i hr1
      have hr1 : Region.ready md ops listed = [k] := by simpa using hr1
      have hm : k ∈ Region.ready md ops listed := by rw [hr1]; exact List.mem_singleton.2 rfl
      cases l with
      | nil =>
        have h0 : ops[k]? = none := by simpa using (hl 0).symm
        obtain ⟨_, o, ho, _⟩ := mem_ready.1 hm
        rw [h0] at ho; cases ho
      | cons o l =>
        have h0 : ops[k]? = some o := by simpa using (hl 0).symm
        have hl' : ∀ j, l[j]? = ops[k + 1 + j]? := fun j => by have := hl (j + 1); simpa [Nat.add_assoc, Nat.add_comm 1 j] using this
        have h1 : wpList P ops (Exit.then (fun a' w' => wpList P ops (Exit.then (fun a' w' => wpAny P md ops Q fuel l2 a' w') Q) (maskL m l) a' w') Q) [o] a w := by
          have : wpList P ops (Exit.then (fun a' w' => wpAny P md ops Q fuel l2 a' w') Q) (o :: maskL m l) a w := h
          unfold wpList at this ⊢
          split
          · rename_i hw
            rw [if_pos hw] at this
            rcases this with t | t
            · left
              unfold Oper.wp at *
              generalize (execOp a.eval o).run P w = r at *
              cases r with
              | ok n w' =>
                cases n <;> simp only [Oper.upon] at t ⊢
                case value u => exact t
                case skip => exact t
                case defer d => exact t
                case enter f args =>
                  refine Calls.mono t fun e w'' he => ?_
                  cases e with
                  | returned u => exact he
                  | panicked c => exact he
                  | outgrown => obtain ⟨a2, w2, h3⟩ := he; exact ⟨a2, w2, h3⟩
                case row row args => exact Rows.mono t fun u w'' he => he
              | halt x w' =>
                cases x <;> simp only [Oper.upon] at t ⊢
                case panic u => exact t
            · exact .inr t
          · rename_i hw
            rw [if_neg hw] at this
            exact this
        have h2 := wpOp_of_list h0 h1
        have : wpAny P md ops Q (fuel + m.count true + 1) listed a w := by
          refine ⟨fun h0 => (by rw [hr1] at h0; cases h0), fun j hj => ?_⟩
          rw [hr1] at hj
          have : j = k := by simpa using hj
          subst this
          exact wpOp_mono (fun a' w' h3 => wpAny_midL m l (j + 1) _ a' w' hl' hB h3) h2
        simpa [Nat.add_assoc] using this
    · cases hB
theorem wpAny_mid {P : Program} {md : Region.Mode} {l : List Oper} {Q : Exit → Act → World → Prop} {listed : Array Bool} {a : Act} {w : World} (fuel : Nat) (m : List Bool) (l2 : Array Bool) (hB : runB md l.toArray m 0 listed = some l2)
    (h : wpList P l.toArray (Exit.then (fun a' w' => wpAny P md l.toArray Q fuel l2 a' w') Q) (maskL m l) a w) : wpAny P md l.toArray Q (fuel + m.count true) listed a w :=
  wpAny_midL m l 0 listed a w (fun j => by simp) hB h
end Go.Proofs.Ytfdkaahkhgljdaa.Mix

namespace Go.Proofs.Ytfdkaahkhgljdaa.Mix
open Go Go.RowKit

/-- Values put into their places, as far as they are there. -/
def putO (a : Act) : List (Nat × Option Tmp) → (Nat → Option Value) → Act
  | [], _ => a
  | (i, d) :: r, B => match B i with
    | none => putO a r B
    | some v => (putO a r B).put d v
theorem putO_congr (a : Act) : ∀ (ds : List (Nat × Option Tmp)) (B B' : Nat → Option Value), (∀ p ∈ ds, B p.1 = B' p.1) → putO a ds B = putO a ds B'
  | [], _, _, _ => rfl
  | (i, d) :: r, B, B', h => by
    have h1 : B i = B' i := h (i, d) List.mem_cons_self
    have h2 := putO_congr a r B B' fun p hp => h p (List.mem_cons_of_mem _ hp)
    unfold putO
    rw [h1, h2]
theorem putO_none (a : Act) : ∀ ds : List (Nat × Option Tmp), putO a ds (fun _ => none) = a
  | [] => rfl
  | (i, d) :: r => by unfold putO; exact putO_none a r
theorem putO_upd (a : Act) : ∀ (ds : List (Nat × Option Tmp)) (B : Nat → Option Value) (i : Nat) (d : Option Tmp) (v : Value), (ds.map (·.1)).Nodup → (ds.filterMap (·.2)).Nodup → (i, d) ∈ ds → B i = none → (putO a ds B).put d v = putO a ds (updV B i v)
  | [], _, _, _, _, _, _, h, _ => by cases h
  | (j, e) :: r, B, i, d, v, h1, h2, h, hn => by
    simp only [List.map_cons, List.nodup_cons] at h1
    rcases List.mem_cons.1 h with h3 | h3
    · obtain ⟨rfl, rfl⟩ := Prod.mk.inj h3
      have e1 : putO a r (updV B i v) = putO a r B := putO_congr a r _ _ fun p hp => by
        unfold updV
        rw [if_neg]
        intro h4
        exact h1.1 (List.mem_map.2 ⟨p, hp, h4⟩)
      have e2 : updV B i v i = some v := by unfold updV; rw [if_pos rfl]
      unfold putO
      rw [e1, e2, hn]
    · have hj : j ≠ i := fun e => h1.1 (by rw [e]; exact List.mem_map.2 ⟨(i, d), h3, rfl⟩)
      have h2' : (r.filterMap (·.2)).Nodup := by
        cases e with
        | none => simpa [List.filterMap_cons] using h2
        | some t => simp only [List.filterMap_cons, List.nodup_cons] at h2; exact h2.2
      have he : ∀ t, e = some t → d ≠ some t := fun t ht hd => by
        subst ht hd
        simp only [List.filterMap_cons, List.nodup_cons] at h2
        exact h2.1 (List.mem_filterMap.2 ⟨(i, some t), h3, rfl⟩)
      have e1 := putO_upd a r B i d v h1.2 h2' h3 hn
      have e2 : updV B i v j = B j := by unfold updV; rw [if_neg hj]
      unfold putO
      rw [e2, ← e1]
      cases B j with
      | none => rfl
      | some u => exact Act.put_comm _ u v he
theorem putO_size (a : Act) : ∀ (ds : List (Nat × Option Tmp)) (B : Nat → Option Value), (putO a ds B).tmps.size = a.tmps.size
  | [], _ => rfl
  | (j, e) :: r, B => by
    have := putO_size a r B
    unfold putO
    cases B j with
    | none => exact this
    | some u => cases e <;> simp [Act.put, this]
theorem putO_eval (a : Act) : ∀ (ds : List (Nat × Option Tmp)) (B : Nat → Option Value) (i : Nat) (d : Tmp) (v : Value), (ds.map (·.1)).Nodup → (ds.filterMap (·.2)).Nodup → (i, some d) ∈ ds → d < a.tmps.size → B i = some v → (putO a ds B).eval (.tmp d) = v
  | [], _, _, _, _, _, _, h, _, _ => by cases h
  | (j, e) :: r, B, i, d, v, h1, h2, h, hd, hv => by
    simp only [List.map_cons, List.nodup_cons] at h1
    rcases List.mem_cons.1 h with h3 | h3
    · obtain ⟨rfl, rfl⟩ := Prod.mk.inj h3
      have := putO_size a r B
      unfold putO
      rw [hv]
      simp [Act.put, Act.eval, this, hd]
    · have h2' : (r.filterMap (·.2)).Nodup := by
        cases e with
        | none => simpa [List.filterMap_cons] using h2
        | some t => simp only [List.filterMap_cons, List.nodup_cons] at h2; exact h2.2
      have he : ∀ t, e = some t → t ≠ d := fun t ht hd => by
        subst ht hd
        simp only [List.filterMap_cons, List.nodup_cons] at h2
        exact h2.1 (List.mem_filterMap.2 ⟨(i, some t), h3, rfl⟩)
      have e1 := putO_eval a r B i d v h1.2 h2' h3 hd hv
      unfold putO
      cases B j with
      | none => exact e1
      | some u => exact (Act.eval_put fun d' hd' hx => by cases hx; exact he _ hd' rfl).trans e1
theorem putO_ne (a : Act) : ∀ (ds : List (Nat × Option Tmp)) (B : Nat → Option Value) (d : Tmp), (∀ q ∈ ds, q.2 ≠ some d) → (putO a ds B).eval (.tmp d) = a.eval (.tmp d)
  | [], _, _, _ => rfl
  | (j, e) :: r, B, d, h => by
    have e1 := putO_ne a r B d fun q hq => h q (List.mem_cons_of_mem _ hq)
    have he := h (j, e) List.mem_cons_self
    unfold putO
    cases B j with
    | none => exact e1
    | some u => exact (Act.eval_put fun d' hd' hx => by cases hx; exact he hd').trans e1
/-- Operations that hang on one another, in whatever order they come up, under an invariant of what has been yielded. -/
theorem wpAny_dagO {P : Program} {md : Region.Mode} {ops : Array Oper} {Q : Exit → Act → World → Prop} {w : World} {a : Act} {listed : Array Bool} (le : Array Bool) (fuel : Nat) (ds : List (Nat × Option Tmp)) (deps : Nat → List Nat) (I : (Nat → Option Value) → World → Prop)
    (hd1 : (ds.map (·.1)).Nodup) (hd2 : (ds.filterMap (·.2)).Nodup)
    (h0 : I (fun _ => none) w)
    (hop : ∀ p ∈ ds, ∀ B W (K : Act → World → Prop), I B W → B p.1 = none → (∀ q ∈ ds, q.1 ∈ deps p.1 → ∃ v, B q.1 = some v) →
      (∀ v W', I (updV B p.1 v) W' → K ((putO a ds B).put p.2 v) W') → wpOp P ops Q p.1 K (putO a ds B) W)
    (hB : mkD md ops le deps ds.length (ds.map (·.1)) listed = true)
    (tail : ∀ B W, I B W → (∀ p ∈ ds, ∃ v, B p.1 = some v) → wpAny P md ops Q fuel le (putO a ds B) W) :
    wpAny P md ops Q (fuel + ds.length) listed a w := by
  have key := wpAny_dagI (P := P) (md := md) (ops := ops) (Q := Q)
    (fun todo a' W => ∃ B, a' = putO a ds B ∧ I B W ∧ todo.Nodup ∧ (∀ i ∈ todo, i ∈ ds.map (·.1)) ∧ ∀ p ∈ ds, p.1 ∈ todo ↔ B p.1 = none) le fuel deps ?step ?tail ds.length (ds.map (·.1)) listed a w hB (by simp) ?init
  case init => exact ⟨fun _ => none, (putO_none a ds).symm, h0, hd1, fun i hi => hi, fun p hp => ⟨fun _ => rfl, fun _ => List.mem_map.2 ⟨p, hp, rfl⟩⟩⟩
  case tail =>
    rintro a' W ⟨B, rfl, hI, -, -, hn⟩
    refine tail B W hI fun p hp => ?_
    exact Option.ne_none_iff_exists'.1 fun e => by have := (hn p hp).2 e; cases this
  case step =>
    rintro todo i a' W hi hde ⟨B, rfl, hI, hnd, ht, hn⟩
    obtain ⟨⟨i', d⟩, hp, rfl⟩ := List.mem_map.1 (ht i hi)
    have hBn := (hn _ hp).1 hi
    refine hop _ hp B W _ hI hBn (fun q hq hqd => Option.ne_none_iff_exists'.1 fun e => hde _ hqd ((hn q hq).2 e)) fun v W' hI' => ?_
    refine ⟨updV B i' v, putO_upd a ds B i' d v hd1 hd2 hp hBn, hI', hnd.erase _, fun j hj => ht j (List.mem_of_mem_erase hj), fun q hq => ?_⟩
    unfold updV
    by_cases h : q.1 = i'
    · rw [if_pos h, h]
      exact ⟨fun hm => absurd hm hnd.not_mem_erase, fun hm => by cases hm⟩
    · rw [if_neg h]
      exact ⟨fun hm => (hn q hq).1 (List.mem_of_mem_erase hm), fun e => (List.mem_erase_of_ne h).2 ((hn q hq).2 e)⟩
  exact key
/-- An operation that yields nothing. -/
theorem wpOp_skip {P : Program} {ops : Array Oper} {Q : Exit → Act → World → Prop} {i : Nat} {o : Oper} {K : Act → World → Prop} {A : Act} {W W' : World} (h0 : ops[i]? = some o) (hw : Region.wanted o (yielded ops A.tmps) = true)
    (hr : (execOp A.eval o).run P W = .ok .skip W') (h : K (A.put o.dst undef) W') : wpOp P ops Q i K A W := by
  unfold wpOp
  simp only [h0]
  rw [if_pos hw]
  left
  unfold Oper.wp
  rw [hr]
  exact h
theorem updV_some {B : Nat → Option Value} {i j : Nat} {v u : Value} (h : updV B i v j = some u) : (j = i ∧ u = v) ∨ (j ≠ i ∧ B j = some u) := by
  unfold updV at h
  split at h
  · exact .inl ⟨by assumption, (Option.some.inj h).symm⟩
  · exact .inr ⟨by assumption, h⟩
theorem updV_none {B : Nat → Option Value} {i j : Nat} {v : Value} (h : updV B i v j = none) : j ≠ i ∧ B j = none := by
  unfold updV at h
  split at h
  · cases h
  · exact ⟨by assumption, h⟩
theorem any_gen {P : Program} {md : Region.Mode} {ops : Array Oper} {Q : Exit → Act → World → Prop} {fuel : Nat} {listed : Array Bool} {a : Act} {w W : World} (hb : Below w.heap.size w W) (h : ∀ wx, Below w.heap.size w wx → wpAny P md ops Q fuel listed a wx) : wpAny P md ops Q fuel listed a W := h W hb
/-- A guarded operation, where the guard has yielded what it waits for. -/
theorem wanted_at {ops : Array Oper} {o : Oper} {A : Act} {j d : Nat} {want : Bool} (hg : o.guard = some (j, want)) (hj : (ops[j]?).bind (·.dst) = some d) (hd : d < A.tmps.size) (hv : A.eval (.tmp d) = .bool want) : Region.wanted o (yielded ops A.tmps) = true := by
  have e : A.tmps[d]? = some (.bool want) := by
    simp [Act.eval, hd] at hv
    simp [hd, hv]
  unfold Region.wanted yielded
  rw [hg]
  dsimp only
  rw [hj]
  simp [e]
end Go.Proofs.Ytfdkaahkhgljdaa.Mix

namespace Go.Proofs.Ytfdkaahkhgljdaa.Slo
open Go.RowKit Go.Shelf Go.Sort Go.Proofs.Ytfdkaahkhgljdaa Go.Proofs.Ytfdkaahkhgljdaa.Occ Go.Proofs.Ytfdkaahkhgljdaa.Frac
attribute [local go_sem] sval Oper.semAt_some

theorem wfS {s : Sl} (h1 : (Lit.int .i64 s.seg).wf = true) (h2 : (s.ws.all fun z => decide (0 ≤ z ∧ z < 18446744073709551616)) = true) (h3 : decide (0 ≤ s.laid ∧ s.laid < 18446744073709551616) = true)
    (h4 : decide (s.ws.length ≤ 100000 ∧ s.ks.length ≤ 100000 ∧ s.vs.length ≤ 100000 ∧ s.cs.length ≤ 100000) = true) : s.Wf := wf_of h1 h2 h3 (by simpa using h4)
theorem names_plain : ∃ N A B T U V X : Sl, ∃ p1 p2 : Int, newSV 4 12 = (N, 2) ∧ newSV 6 12 = (N, 2) ∧ newSV 2 4 = (N, 2) ∧ newSV 64 32 = (N, 2) ∧ newSV 4 4 = (A, 0) ∧ A.Wf ∧ laySV A 0 (-9) 1 = (B, 0) ∧ B.Wf ∧
    atV B 1 = ((p1, p2), 6) ∧ atV B 4 = ((p1, p2), 2) ∧ clearSV B 2 = (N, 6) ∧ moveSV B 0 3 = (T, 0) ∧ T.Wf ∧ T.laid = 2 ∧ laySV T 1 2 0 = (U, 0) ∧ U.Wf ∧ moveSV U 1 3 = (N, 9) ∧ moveSV U 1 1 = (V, 0) ∧ V.laid = 4 ∧
    fillSV U 0 4 [1, 1] [(0, 0), (0, 0)] = (N, 2) ∧ fillSV U 0 4 [0, 3] [(8, 0), (9, 0)] = (X, 0) ∧ X.laid = 5 ∧ X.cs = [2] :=
  ⟨noneS, emptyV 4 4, layV (emptyV 4 4) 0 (-9) 1, layV (takeV (layV (emptyV 4 4) 0 (-9) 1) 0) 3 (-9) 1, layV (layV (takeV (layV (emptyV 4 4) 0 (-9) 1) 0) 3 (-9) 1) 1 2 0,
    layV (takeV (layV (layV (takeV (layV (emptyV 4 4) 0 (-9) 1) 0) 3 (-9) 1) 1 2 0) 1) 1 2 0, fillV (layV (layV (takeV (layV (emptyV 4 4) 0 (-9) 1) 0) 3 (-9) 1) 1 2 0) 0 4 [0, 3] [(8, 0), (9, 0)], 0, 0,
    by decide +kernel, by decide +kernel, by decide +kernel, by decide +kernel, by decide +kernel, wfS (by decide +kernel) (by decide +kernel) (by decide +kernel) (by decide +kernel), by decide +kernel, wfS (by decide +kernel) (by decide +kernel) (by decide +kernel) (by decide +kernel),
    by decide +kernel, by decide +kernel, by decide +kernel, by decide +kernel, wfS (by decide +kernel) (by decide +kernel) (by decide +kernel) (by decide +kernel), by decide +kernel, by decide +kernel, wfS (by decide +kernel) (by decide +kernel) (by decide +kernel) (by decide +kernel), by decide +kernel, by decide +kernel, by decide +kernel,
    by decide +kernel, by decide +kernel, by decide +kernel, by decide +kernel⟩
def bad1 : Sl := ⟨4, [1], [0, 0, 0, 0], [0, 0, 0, 0], [0], 0⟩
def bad2 : Sl := ⟨4, [0], [1, 0, 0, 0], [0, 0, 0, 0], [0], 0⟩
theorem bads : (noneS.Wf ∧ chkS noneS = 8) ∧ (bad1.Wf ∧ chkS bad1 = 8) ∧ bad2.Wf ∧ chkS bad2 = 8 :=
  ⟨⟨wfS (by decide +kernel) (by decide +kernel) (by decide +kernel) (by decide +kernel), by decide +kernel⟩, ⟨wfS (by decide +kernel) (by decide +kernel) (by decide +kernel) (by decide +kernel), by decide +kernel⟩, wfS (by decide +kernel) (by decide +kernel) (by decide +kernel) (by decide +kernel), by decide +kernel⟩

theorem rd_lit {k : IntKind} {w : World} {news : Array Value} {e : TypeId} {zs : List Int} (h : news.toList = zs.map (Value.int k)) : Rd k (w.alloc (.cells news e)) (some ⟨w.heap.size, 0, Option.none⟩) zs := by
  refine .inr ⟨_, _, rfl, by simp, fun i hi => ?_⟩
  have := new_cells w e news i (.int k (zs.getD i 0)) (by rw [h]; simp [List.getD_eq_getElem?_getD, hi])
  rwa [Addr.add_lit] at this
theorem rd2_lit (w : World) : Rd2 (w.alloc (.cells (madeCells (Value.agg #[.int .i64 0, .int .i64 0]).cells 4) 43)) (some ⟨w.heap.size, 0, Option.none⟩) [(0, 0), (0, 0)] := by
  have h := World.ownsRow_lit (base := w.heap.size) (e := 43) (size := 2) w (madeCells (Value.agg #[.int .i64 0, .int .i64 0]).cells 4) 2 (Nat.le_refl _) (by decide) (size_madeCells _ _)
  rw [show (madeCells (Value.agg #[.int .i64 0, .int .i64 0]).cells 4).toList = pcells [(0, 0), (0, 0)] by kernel_rfl] at h
  obtain ⟨a', c', e, -, hr, -⟩ := owns2_arg h
  cases e; exact hr
theorem make2_run (W : World) : (Instr.makeSlice 29 (.int .i64 2) (.int .i64 2)).run Try.prog W = .ok (.slice (some ⟨W.heap.size, 0, Option.none⟩) 2 2) (W.alloc (.cells (madeCells (Value.agg #[.int .i64 0, .int .i64 0]).cells 4) 43)) := by
  obtain ⟨i0, hi, hz0, hz1, hz2⟩ := info_parts infoPr
  have h := run_makeSlice (P := Try.prog) W 29 43 i0 (.agg #[.int .i64 0, .int .i64 0]) Try.underlying29 hi hz0 .i64 .i64 2 2 (by decide) (by decide) (by rw [hz1]; decide) (by rw [hz2]; decide) (by decide)
  rw [hz1] at h
  exact h
theorem keeps_lon {n : Nat} {W W' : World} (hb : Below n W W') : Keeps n W.heap.size W.heap.size W W' := ⟨hb, fun i h1 h2 => by omega⟩
theorem below_lit (w : World) (o : Obj) : Below w.heap.size w (w.alloc o) := (Below.refl _ w).alloc (Nat.le_refl _) _
theorem rd2_lits {w : World} {news : Array Value} {zs : List (Int × Int)} (h : news.toList = pcells zs) (hs : news.size = zs.length * 2) (hm : zs.length ≤ maxLen) : Rd2 (w.alloc (.cells news 43)) (some ⟨w.heap.size, 0, Option.none⟩) zs := by
  have h2 := World.ownsRow_lit (base := w.heap.size) (e := 43) (size := 2) w news zs.length (Nat.le_refl _) hm hs
  rw [h] at h2
  obtain ⟨a', c', e, -, hr, -⟩ := owns2_arg h2
  cases e; exact hr
theorem noneS_rd (w : World) : SRd w noneS noneH := ⟨.inl rfl, .inl rfl, .inl rfl, .inl rfl⟩
theorem make4_run (W : World) : (Instr.makeSlice 23 (.int .i64 4) (.int .i64 4)).run Try.prog W = .ok (.slice (some ⟨W.heap.size, 0, Option.none⟩) 4 4) (W.alloc (.cells (madeCells (Value.int .i64 0).cells 4) 2)) := by
  obtain ⟨i0, hi, hz0, hz1, hz2⟩ := info_parts infoK
  have h := run_makeSlice (P := Try.prog) W 23 2 i0 (.int .i64 0) Try.underlying23 hi hz0 .i64 .i64 4 4 (by decide) (by decide) (by rw [hz1]; decide) (by rw [hz2]; decide) (by decide)
  rw [hz1] at h
  exact h
theorem rd_make4 (W : World) : Rd .i64 (W.alloc (.cells (madeCells (Value.int .i64 0).cells 4) 2)) (some ⟨W.heap.size, 0, Option.none⟩) [0, 0, 0, 0] := rd_lit (by rw [Mix.made_list 0 .i64 4]; rfl)
/-- What the operations of a drawn region have yielded. -/
def bxF (w : World)  (B : Nat → Option Value) : Nat → Value → World → Prop
  | 0, v, W => v = sval noneS noneH
  | 1, v, W => v = .int .i64 8
  | 2, v, W => v = .bool true
  | 3, v, W => v = .bool true
  | 4, v, W => ∃ a c, v = .slice a 1 c ∧ Rd .u64 W a [1]
  | 5, v, W => ∃ a c, v = .slice a 4 c ∧ Rd .i64 W a [0, 0, 0, 0]
  | 6, v, W => ∃ a c, v = .slice a 4 c ∧ Rd .i64 W a [0, 0, 0, 0]
  | 7, v, W => ∃ a c, v = .slice a 1 c ∧ Rd .i64 W a [0]
  | 8, v, W => ∃ h, v = sval bad1 h ∧ SRd W bad1 h
  | 9, v, W => v = .int .i64 8
  | 10, v, W => v = .bool true
  | 11, v, W => v = .bool true
  | 12, v, W => v = .bool true
  | _, _, _ => True
theorem bxF_mono {w : World}  {B : Nat → Option Value} {k : Nat} {u : Value} : ∀ {i v W W'}, bxF w  B i v W → Below W.heap.size W W' → bxF w  (Mix.updV B k u) i v W'
  | 0, v, W, W', h, hb => h
  | 1, v, W, W', h, hb => h
  | 2, v, W, W', h, hb => h
  | 3, v, W, W', h, hb => h
  | 4, v, W, W', h, hb => (fun ⟨a, c, h, r⟩ => ⟨a, c, h, r.mono hb (Nat.le_refl _)⟩) h
  | 5, v, W, W', h, hb => (fun ⟨a, c, h, r⟩ => ⟨a, c, h, r.mono hb (Nat.le_refl _)⟩) h
  | 6, v, W, W', h, hb => (fun ⟨a, c, h, r⟩ => ⟨a, c, h, r.mono hb (Nat.le_refl _)⟩) h
  | 7, v, W, W', h, hb => (fun ⟨a, c, h, r⟩ => ⟨a, c, h, r.mono hb (Nat.le_refl _)⟩) h
  | 8, v, W, W', h, hb => (fun ⟨a, h, r⟩ => ⟨a, h, r.next hb⟩) h
  | 9, v, W, W', h, hb => h
  | 10, v, W, W', h, hb => h
  | 11, v, W, W', h, hb => h
  | 12, v, W, W', h, hb => h
  | _ + 13, _, _, _, _, _ => trivial
structure bxI (w : World)  (B : Nat → Option Value) (W : World) : Prop where
  below : Below w.heap.size w W
  f : ∀ i v, B i = some v → bxF w  B i v W
theorem bxI.next {w W W' : World}  {B : Nat → Option Value} {k : Nat} {u : Value} (h : bxI w  B W) (hb : Below W.heap.size W W') (hu' : bxF w  (Mix.updV B k u) k u W') : bxI w  (Mix.updV B k u) W' :=
  ⟨h.below.trans (hb.mono h.below.size), fun i v hv => by
    rcases Mix.updV_some hv with ⟨rfl, rfl⟩ | ⟨-, hv'⟩
    · exact hu'
    · exact bxF_mono (h.f i v hv') hb⟩
def bxD : Nat → List Nat
  | 1 => [0]
  | 2 => [1]
  | 3 => [2]
  | 4 => [3]
  | 5 => [3]
  | 6 => [3]
  | 7 => [3]
  | 8 => [3, 4, 5, 6, 7]
  | 9 => [3, 8]
  | 10 => [3, 9]
  | 11 => [3, 10]
  | 12 => [11]
  | _ => []
def bxS : List (Nat × Option Tmp) := [(0, some 195), (1, some 196), (2, some 197), (3, some 198), (4, some 199), (5, some 200), (6, some 201), (7, some 202), (8, some 203), (9, some 204), (10, some 205), (11, some 206), (12, some 207)]
/-- What the operations of a drawn region have yielded. -/
def byF (w : World)  (B : Nat → Option Value) : Nat → Value → World → Prop
  | 0, _, _ => True
  | 1, _, _ => True
  | 2, _, _ => True
  | 3, _, _ => True
  | 4, _, _ => True
  | 5, _, _ => True
  | 6, _, _ => True
  | 7, _, _ => True
  | 8, _, _ => True
  | 9, _, _ => True
  | 10, _, _ => True
  | 11, _, _ => True
  | 12, _, _ => True
  | 13, v, W => ∃ a c, v = .slice a 1 c ∧ Rd .u64 W a [0]
  | 14, v, W => ∃ a c, v = .slice a 4 c ∧ Rd .i64 W a [1, 0, 0, 0]
  | 15, v, W => ∃ a c, v = .slice a 4 c ∧ Rd .i64 W a [0, 0, 0, 0]
  | 16, v, W => ∃ a c, v = .slice a 1 c ∧ Rd .i64 W a [0]
  | 17, v, W => ∃ h, v = sval bad2 h ∧ SRd W bad2 h
  | 18, v, W => v = .int .i64 8
  | 19, v, W => v = .bool true
  | 20, v, W => v = .bool true
  | 21, v, W => v = .bool true
  | _, _, _ => True
theorem byF_mono {w : World}  {B : Nat → Option Value} {k : Nat} {u : Value} : ∀ {i v W W'}, byF w  B i v W → Below W.heap.size W W' → byF w  (Mix.updV B k u) i v W'
  | 0, v, W, W', h_, _ => trivial
  | 1, v, W, W', h_, _ => trivial
  | 2, v, W, W', h_, _ => trivial
  | 3, v, W, W', h_, _ => trivial
  | 4, v, W, W', h_, _ => trivial
  | 5, v, W, W', h_, _ => trivial
  | 6, v, W, W', h_, _ => trivial
  | 7, v, W, W', h_, _ => trivial
  | 8, v, W, W', h_, _ => trivial
  | 9, v, W, W', h_, _ => trivial
  | 10, v, W, W', h_, _ => trivial
  | 11, v, W, W', h_, _ => trivial
  | 12, v, W, W', h_, _ => trivial
  | 13, v, W, W', h, hb => (fun ⟨a, c, h, r⟩ => ⟨a, c, h, r.mono hb (Nat.le_refl _)⟩) h
  | 14, v, W, W', h, hb => (fun ⟨a, c, h, r⟩ => ⟨a, c, h, r.mono hb (Nat.le_refl _)⟩) h
  | 15, v, W, W', h, hb => (fun ⟨a, c, h, r⟩ => ⟨a, c, h, r.mono hb (Nat.le_refl _)⟩) h
  | 16, v, W, W', h, hb => (fun ⟨a, c, h, r⟩ => ⟨a, c, h, r.mono hb (Nat.le_refl _)⟩) h
  | 17, v, W, W', h, hb => (fun ⟨a, h, r⟩ => ⟨a, h, r.next hb⟩) h
  | 18, v, W, W', h, hb => h
  | 19, v, W, W', h, hb => h
  | 20, v, W, W', h, hb => h
  | 21, v, W, W', h, hb => h
  | _ + 22, _, _, _, _, _ => trivial
structure byI (w : World)  (B : Nat → Option Value) (W : World) : Prop where
  below : Below w.heap.size w W
  f : ∀ i v, B i = some v → byF w  B i v W
theorem byI.next {w W W' : World}  {B : Nat → Option Value} {k : Nat} {u : Value} (h : byI w  B W) (hb : Below W.heap.size W W') (hu' : byF w  (Mix.updV B k u) k u W') : byI w  (Mix.updV B k u) W' :=
  ⟨h.below.trans (hb.mono h.below.size), fun i v hv => by
    rcases Mix.updV_some hv with ⟨rfl, rfl⟩ | ⟨-, hv'⟩
    · exact hu'
    · exact byF_mono (h.f i v hv') hb⟩
def byD : Nat → List Nat
  | 17 => [13, 14, 15, 16]
  | 18 => [17]
  | 19 => [18]
  | 20 => [19]
  | 21 => [20]
  | _ => []
def byS : List (Nat × Option Tmp) := [(13, some 208), (14, some 209), (15, some 210), (16, some 211), (17, some 212), (18, some 213), (19, some 214), (20, some 215), (21, some 32)]
/-- What the operations of the drawn region have yielded. -/
def nmF (w : World) (U N : Sl) (hu : Hd) (B : Nat → Option Value) : Nat → Value → World → Prop
  | 0, v, _ => v = sval U hu
  | 1, v, W => B 3 = none → ∃ a c, v = .slice a 2 c ∧ Rd .i64 W a [1, 1]
  | 2, v, W => B 3 = none → ∃ a c, v = .slice a 2 c ∧ Rd2 W a [(0, 0), (0, 0)]
  | 3, v, _ => ∃ h, v = .tuple #[sval N h, .int .i64 2]
  | 4, v, _ => ∃ h, v = .tuple #[sval N h, .int .i64 2]
  | 5, v, _ => ∃ h, v = sval N h
  | 6, v, _ => v = .int .i64 2
  | 7, v, W => ∃ b, v = .pointer (some ⟨b, 0, Option.none⟩) ∧ w.heap.size ≤ b ∧ (B 8 = none → BS W b noneS noneH)
  | 9, v, _ => v = .int .i64 2
  | _, _, _ => True
theorem nmF_mono {w : World} {U N : Sl} {hu : Hd} {B : Nat → Option Value} {k : Nat} {u : Value} : ∀ {i v W W'}, nmF w U N hu B i v W → Below W.heap.size W W' → nmF w U N hu (Mix.updV B k u) i v W'
  | 0, _, _, _, h, _ => h
  | 1, _, _, _, h, hb => fun e => by obtain ⟨a, c, h, r⟩ := h (Mix.updV_none e).2; exact ⟨a, c, h, r.mono hb (Nat.le_refl _)⟩
  | 2, _, _, _, h, hb => fun e => by obtain ⟨a, c, h, r⟩ := h (Mix.updV_none e).2; exact ⟨a, c, h, r.mono hb (Nat.le_refl _)⟩
  | 3, _, _, _, h, _ => h
  | 4, _, _, _, h, _ => h
  | 5, _, _, _, h, _ => h
  | 6, _, _, _, h, _ => h
  | 7, _, _, _, ⟨b, h, hl, bx⟩, hb => ⟨b, h, hl, fun e => (bx (Mix.updV_none e).2).next hb⟩
  | 8, _, _, _, _, _ => trivial
  | 9, _, _, _, h, _ => h
  | _ + 10, _, _, _, _, _ => trivial
theorem nmF_store {w : World} {U N : Sl} {hu : Hd} {B : Nat → Option Value} {u : Value} (h3 : B 3 ≠ none) : ∀ {i v W W'}, nmF w U N hu B i v W → nmF w U N hu (Mix.updV B 8 u) i v W'
  | 0, _, _, _, h => h
  | 1, _, _, _, _ => fun e => absurd (Mix.updV_none e).2 h3
  | 2, _, _, _, _ => fun e => absurd (Mix.updV_none e).2 h3
  | 3, _, _, _, h => h
  | 4, _, _, _, h => h
  | 5, _, _, _, h => h
  | 6, _, _, _, h => h
  | 7, _, _, _, ⟨b, h, hl, _⟩ => ⟨b, h, hl, fun e => absurd rfl (Mix.updV_none e).1⟩
  | 8, _, _, _, _ => trivial
  | 9, _, _, _, h => h
  | _ + 10, _, _, _, _ => trivial
structure NmI (w : World) (U N : Sl) (hu : Hd) (B : Nat → Option Value) (W : World) : Prop where
  below : Below w.heap.size w W
  f : ∀ i v, B i = some v → nmF w U N hu B i v W
theorem NmI.next {w W W' : World} {U N : Sl} {hu : Hd} {B : Nat → Option Value} {k : Nat} {u : Value} (h : NmI w U N hu B W) (hb : Below W.heap.size W W') (hu' : nmF w U N hu (Mix.updV B k u) k u W') : NmI w U N hu (Mix.updV B k u) W' :=
  ⟨h.below.trans (hb.mono h.below.size), fun i v hv => by
    rcases Mix.updV_some hv with ⟨rfl, rfl⟩ | ⟨-, hv'⟩
    · exact hu'
    · exact nmF_mono (h.f i v hv') hb⟩
theorem NmI.store {w W W' : World} {U N : Sl} {hu : Hd} {B : Nat → Option Value} {u : Value} (h : NmI w U N hu B W) (hb : Below w.heap.size w W') (h3 : B 3 ≠ none) : NmI w U N hu (Mix.updV B 8 u) W' :=
  ⟨hb, fun i v hv => by
    rcases Mix.updV_some hv with ⟨rfl, rfl⟩ | ⟨-, hv'⟩
    · trivial
    · exact nmF_store h3 (h.f i v hv')⟩
def nmD : Nat → List Nat
  | 3 => [0, 1, 2]
  | 4 => [3]
  | 5 => [4]
  | 6 => [4]
  | 8 => [3, 5, 7]
  | 9 => [6]
  | _ => []
def nmS : List (Nat × Option Tmp) := [(0, some 96), (1, some 97), (2, some 98), (3, some 99), (4, some 95), (5, some 100), (6, some 101), (7, some 26), (8, none), (9, some 27)]

set_option maxRecDepth 100000 in
set_option maxHeartbeats 16000000 in
theorem slotsNames (w : World) : Calls Try.prog 9 #[] w fun e w' => e = .returned (.bool true) ∧ Below w.heap.size w w' := by
  obtain ⟨N, A, B, T, U, V, X, p1, p2, e1, e2, e3, e4, e5, wA, e6, wB, e7, e8, e9, e10, wT, t1, e11, wU, e12, e13, t2, e14, e15, t3, t4⟩ := names_plain
  have HN1 := Lib.hid (fun w1 => New_any 4 12 w1 (by decide) (by decide))
  rw [e1] at HN1
  have HN2 := Lib.hid (fun w1 => New_any 6 12 w1 (by decide) (by decide))
  rw [e2] at HN2
  have HN3 := Lib.hid (fun w1 => New_any 2 4 w1 (by decide) (by decide))
  rw [e3] at HN3
  have HN4 := Lib.hid (fun w1 => New_any 64 32 w1 (by decide) (by decide))
  rw [e4] at HN4
  have HN5 := Lib.hid (fun w1 => New_any 4 4 w1 (by decide) (by decide))
  rw [e5] at HN5
  have HL1 := Lib.hid (fun h1 w1 R => Lay_any A h1 0 (-9) 1 w1 wA R)
  rw [e6] at HL1
  have HA1 := Lib.hid (fun h1 w1 R => sAt_any B h1 1 w1 wB R)
  rw [e7] at HA1
  have HA2 := Lib.hid (fun h1 w1 R => sAt_any B h1 4 w1 wB R)
  rw [e8] at HA2
  have HC1 := Lib.hid (fun h1 w1 R => Clear_any B h1 2 w1 wB R)
  rw [e9] at HC1
  have HM1 := Lib.hid (fun h1 w1 R => Move_any B h1 0 3 w1 wB R)
  rw [e10] at HM1
  have HL2 := Lib.hid (fun h1 w1 R => Lay_any T h1 1 2 0 w1 wT R)
  rw [e11] at HL2
  have HM2 := Lib.hid (fun h1 w1 R => Move_any U h1 1 3 w1 wU R)
  rw [e12] at HM2
  have HM3 := Lib.hid (fun h1 w1 R => Move_any U h1 1 1 w1 wU R)
  rw [e13] at HM3
  have HF1 := Lib.hid (fun h1 ax cx al cl w1 R RX RL => Fill_any U h1 0 4 ax cx [1, 1] al cl [(0, 0), (0, 0)] w1 wU R RX RL (by decide) (by decide))
  rw [e14] at HF1
  have HF2 := Lib.hid (fun h1 ax cx al cl w1 R RX RL => Fill_any U h1 0 4 ax cx [0, 3] al cl [(8, 0), (9, 0)] w1 wU R RX RL (by decide) (by decide))
  rw [e15] at HF2
  obtain ⟨⟨wN, cN⟩, ⟨w1', c1'⟩, w2', c2'⟩ := bads
  have HK0 := Lib.hid (fun h1 w1 R => sCheck_any noneS h1 w1 wN R)
  rw [cN] at HK0
  have HK1 := Lib.hid (fun h1 w1 R => sCheck_any bad1 h1 w1 w1' R)
  rw [c1'] at HK1
  have HK2 := Lib.hid (fun h1 w1 R => sCheck_any bad2 h1 w1 w2' R)
  rw [c2'] at HK2
  have HAL := Lib.hid alive_any
  have HT1 := Lib.hid t1
  have HT2 := Lib.hid t2
  have HT3 := Lib.hid t3
  have HT4 := Lib.hid t4
  clear e1 e2 e3 e4 e5 e6 e7 e8 e9 e10 e11 e12 e13 e14 e15 t1 t2 t3 t4 wA wB wT wU wN cN w1' c1' w2' c2'
  go_enter Try.func9, Try.ntmps9
  have E0 := Lib.hid ((St.below w))
  go_wp2_with fail
  refine (HN1.out _).mono ?_
  rintro e w1 ⟨n1, rfl, ho, hb⟩
  have E1 := Lib.hid (E0.out.next hb)
  clear hb
  clear ho
  go_wp2_with fail
  rw [allocS_fold]
  have E2 := Lib.hid ((E1.out.next (allocS_below w1 N n1)).and (St.bs (allocS_bs w1 N n1)))
  generalize allocS w1 N n1 = w2 at *
  refine (HN2.out _).mono ?_
  rintro e w3 ⟨n2, rfl, ho, hb⟩
  have E3 := Lib.hid (E2.out.next hb)
  clear hb
  clear ho
  go_wp2_with fail
  rw [allocS_fold]
  have E4 := Lib.hid ((E3.out.next (allocS_below w3 N n2)).and (St.bs (allocS_bs w3 N n2)))
  generalize allocS w3 N n2 = w4 at *
  refine (HN3.out _).mono ?_
  rintro e w5 ⟨n3, rfl, ho, hb⟩
  have E5 := Lib.hid (E4.out.next hb)
  clear hb
  clear ho
  go_wp2_with fail
  rw [allocS_fold]
  have E6 := Lib.hid ((E5.out.next (allocS_below w5 N n3)).and (St.bs (allocS_bs w5 N n3)))
  generalize allocS w5 N n3 = w6 at *
  refine (HN4.out _).mono ?_
  rintro e w7 ⟨n4, rfl, ho, hb⟩
  have E7 := Lib.hid (E6.out.next hb)
  clear hb
  clear ho
  go_wp2_with fail
  rw [allocS_fold]
  have E8 := Lib.hid ((E7.out.next (allocS_below w7 N n4)).and (St.bs (allocS_bs w7 N n4)))
  generalize allocS w7 N n4 = w8 at *
  refine (HN5.out _).mono ?_
  rintro e w9 ⟨ha, rfl, ho, hb⟩
  have E9 := Lib.hid ((E8.out.next hb).and (St.own ho))
  clear hb
  clear ho
  go_wp2_with fail
  rw [allocS_fold]
  have E10 := Lib.hid ((E9.out.next (allocS_below w9 A ha)).and (St.bs (allocS_bs w9 A ha)))
  generalize allocS w9 A ha = w10 at *
  refine (HL1.out ha _ (SOwn.rd E10.out.now.2.1)).mono ?_
  rintro e w11 ⟨hb2, rfl, ho, hb⟩
  have E11 := Lib.hid ((E10.out.next hb).and (St.own ho))
  clear hb
  clear ho
  obtain ⟨-, ⟨⟨bs_0, bs_1, bs_2, bs_3, bs_4, bs_5, -⟩, bs_l⟩, -, -, -, -, -, -⟩ := E11.out.now
  have fb := E11.out.now.2.1.box.f
  have f0 := fb 0; have f1 := fb 1; have f2 := fb 2; have f3 := fb 3; have f4 := fb 4; have f5 := fb 5
  clear fb
  go_wp2_with fail
  rw [stS_fold]
  clear bs_0 bs_1 bs_2 bs_3 bs_4 bs_5 bs_l
  clear f0 f1 f2 f3 f4 f5
  have hz1 : w.heap.size ≤ w9.heap.size := E9.out.now.2.2.2.2.2.size
  have hz2 : w9.heap.size < w10.heap.size := E10.out.now.1.lt
  have E12 := Lib.hid ((((St.below' (stS_below (p := w9.heap.size) (s := B) (h := hb2) E11.out.now.2.2.2.2.2.2.2 hz1))).and (St.own (stS_own (s := B) (h := hb2) E11.out.now.1 hz2))).and (St.bs (stS_bs (s := B) (h := hb2) E11.out.now.2.1)))
  generalize stS w11 w9.heap.size B hb2 = w12 at *
  refine (HA1.out hb2 _ (SOwn.rd E12.out.now.2.1)).mono ?_
  rintro e w13 ⟨rfl, hb⟩
  have E13 := Lib.hid (E12.out.next hb)
  clear hb
  obtain ⟨⟨⟨bs_0, bs_1, bs_2, bs_3, bs_4, bs_5, -⟩, bs_l⟩, -, -⟩ := E13.out.now
  go_wp2_with fail
  clear bs_0 bs_1 bs_2 bs_3 bs_4 bs_5 bs_l
  rw [allocP_fold]
  have E14 := Lib.hid ((E13.out.next (allocP_below w13 p1 p2)).and (St.bp (allocP_bp w13 p1 p2)))
  generalize allocP w13 p1 p2 = w14 at *
  refine (HA2.out hb2 _ (SOwn.rd E14.out.now.2.2.1)).mono ?_
  rintro e w15 ⟨rfl, hb⟩
  have E15 := Lib.hid (E14.out.next hb)
  clear hb
  obtain ⟨-, ⟨⟨bs_0, bs_1, bs_2, bs_3, bs_4, bs_5, -⟩, bs_l⟩, -, -⟩ := E15.out.now
  go_wp2_with fail
  clear bs_0 bs_1 bs_2 bs_3 bs_4 bs_5 bs_l
  rw [allocP_fold]
  have E16 := Lib.hid ((E15.out.next (allocP_below w15 p1 p2)).and (St.bp (allocP_bp w15 p1 p2)))
  generalize allocP w15 p1 p2 = w16 at *
  refine (HC1.out hb2 _ (SOwn.rd E16.out.now.2.2.2.1)).mono ?_
  rintro e w17 ⟨n5, rfl, ho, hb⟩
  have E17 := Lib.hid (E16.out.next hb)
  clear hb
  clear ho
  obtain ⟨-, -, ⟨⟨bs_0, bs_1, bs_2, bs_3, bs_4, bs_5, -⟩, bs_l⟩, -, -⟩ := E17.out.now
  go_wp2_with fail
  clear bs_0 bs_1 bs_2 bs_3 bs_4 bs_5 bs_l
  rw [allocS_fold]
  have E18 := Lib.hid ((E17.out.next (allocS_below w17 N n5)).and (St.bs (allocS_bs w17 N n5)))
  generalize allocS w17 N n5 = w18 at *
  refine (HM1.out hb2 _ (SOwn.rd E18.out.now.2.2.2.2.1)).mono ?_
  rintro e w19 ⟨ht, rfl, ho, hb⟩
  have E19 := Lib.hid ((E18.out.next hb).and (St.own ho))
  clear hb
  clear ho
  go_wp2_with fail
  rw [allocS_fold]
  have E20 := Lib.hid ((E19.out.next (allocS_below w19 T ht)).and (St.bs (allocS_bs w19 T ht)))
  generalize allocS w19 T ht = w20 at *
  refine (HL2.out ht _ (SOwn.rd E20.out.now.2.1)).mono ?_
  rintro e w21 ⟨hu, rfl, ho, hb⟩
  have E21 := Lib.hid ((E20.out.next hb).and (St.own ho))
  clear hb
  clear ho
  go_wp2_with fail
  rw [allocS_fold]
  have E22 := Lib.hid ((E21.out.next (allocS_below w21 U hu)).and (St.bs (allocS_bs w21 U hu)))
  generalize allocS w21 U hu = w22 at *
  refine (HM2.out hu _ (SOwn.rd E22.out.now.2.1)).mono ?_
  rintro e w23 ⟨n6, rfl, ho, hb⟩
  have E23 := Lib.hid (E22.out.next hb)
  clear hb
  clear ho
  obtain ⟨⟨⟨bu_0, bu_1, bu_2, bu_3, bu_4, bu_5, -⟩, bu_l⟩, -, -, -, -, -, -, -, -, -⟩ := E23.out.now
  go_wp2_with fail
  clear bu_0 bu_1 bu_2 bu_3 bu_4 bu_5 bu_l
  rw [allocS_fold]
  have E24 := Lib.hid ((E23.out.next (allocS_below w23 N n6)).and (St.bs (allocS_bs w23 N n6)))
  generalize allocS w23 N n6 = w24 at *
  refine (HM3.out hu _ (SOwn.rd E24.out.now.2.2.1)).mono ?_
  rintro e w25 ⟨hv, rfl, ho, hb⟩
  have E25 := Lib.hid ((E24.out.next hb).and (St.own ho))
  clear hb
  clear ho
  go_wp2_with fail
  rw [allocS_fold]
  have E26 := Lib.hid ((E25.out.next (allocS_below w25 V hv)).and (St.bs (allocS_bs w25 V hv)))
  generalize allocS w25 V hv = w26 at *
  refine wp_region_any mixed' ?_
  have E27 := Lib.hid (E26.out.next (Below.refl _ w26).drew)
  change wpAny _ _ _ _ (0 + 10) _ _ w26.drew
  generalize w26.drew = w27 at *
  generalize hA : Act.mk _ _ = A
  have hsz : A.tmps.size = 228 := by rw [← hA]; rfl
  have h20 : A.eval (.tmp 20) = .pointer (some ⟨w21.heap.size, 0, Option.none⟩) := by rw [← hA]; rfl
  have HA := Lib.hid hA
  clear hA
  refine Mix.wpAny_dagO (Array.replicate 10 true) 0 nmS nmD (NmI w27 U N hu) (by decide) (by decide) ⟨Below.refl _ _, fun i v hv => by cases hv⟩ ?hop (by kernel_rfl) ?tail
  case hop =>
    intro p hp B W K hI hBn hd hk
    have EW := Lib.hid (E27.out.next hI.below)
    have h20' : (Mix.putO A nmS B).tmps[20]?.getD undef = .pointer (some ⟨w21.heap.size, 0, Option.none⟩) := by have := (Mix.putO_ne A nmS B 20 (by decide)).trans h20; simpa [Act.eval] using this
    have hev : ∀ i d v, (i, some d) ∈ nmS → d < 228 → B i = some v → (Mix.putO A nmS B).tmps[d]?.getD undef = v := fun i d v h1 h2 h3 => by have := Mix.putO_eval A nmS B i d v (by decide) (by decide) h1 (by rw [hsz]; exact h2) h3; simpa [Act.eval] using this
    simp only [nmS, List.mem_cons, List.not_mem_nil, or_false] at hp
    rcases hp with rfl | rfl | rfl | rfl | rfl | rfl | rfl | rfl | rfl | rfl
    · obtain ⟨⟨c0, c1, c2, c3, c4, c5, -⟩, -⟩ := EW.out.now.2.2.2.1
      refine Mix.wpOp_value rfl rfl (v := sval U hu) (W' := W) ?_ (hk _ _ (hI.next (Below.refl _ _) rfl))
      simp [execOp, go_sem, *]
    · refine Mix.wpOp_value rfl rfl (v := .slice (some ⟨W.heap.size, 0, Option.none⟩) 2 2) (W' := W.alloc (.cells #[.int .i64 1, .int .i64 1] 3)) ?_ (hk _ _ (hI.next (below_lit _ _) (fun _ => ⟨_, _, rfl, rd_lit rfl⟩)))
      simp [execOp, go_sem, Act.eval]
    · refine Mix.wpOp_value rfl rfl (v := .slice (some ⟨W.heap.size, 0, Option.none⟩) 2 2) (W' := W.alloc (.cells (madeCells (Value.agg #[.int .i64 0, .int .i64 0]).cells 4) 43)) ?_ (hk _ _ (hI.next (below_lit _ _) (fun _ => ⟨_, _, rfl, rd2_lit W⟩)))
      have hm := make2_run W
      simp [execOp, go_sem, hm]
    · obtain ⟨v0, g0⟩ := hd (0, some 96) (by decide) (by decide)
      obtain ⟨v1, g1⟩ := hd (1, some 97) (by decide) (by decide)
      obtain ⟨v2, g2⟩ := hd (2, some 98) (by decide) (by decide)
      obtain rfl : v0 = sval U hu := hI.f 0 _ g0
      obtain ⟨a1, k1, rfl, r1⟩ := hI.f 1 _ g1 hBn
      obtain ⟨a2, k2, rfl, r2⟩ := hI.f 2 _ g2 hBn
      have y0 := hev 0 96 _ (by decide) (by decide) g0
      have y1 := hev 1 97 _ (by decide) (by decide) g1
      have y2 := hev 2 98 _ (by decide) (by decide) g2
      refine Mix.wpOp_call rfl rfl (f := 12) (args := #[sval U hu, .int .i64 0, .int .i64 4, .slice a1 2 k1, .slice a2 2 k2]) ?_ ((HF1.out hu a1 k1 a2 k2 W (SOwn.rd EW.out.now.2.2.2.2.1) r1 r2).mono ?_)
      · simp [execOp, resolve, y0, y1, y2, go_sem]
      · rintro e w' ⟨h', rfl, ho, hb'⟩
        exact ⟨_, rfl, hk _ _ (hI.next hb' ⟨h', rfl⟩)⟩
    · obtain ⟨v0, g0⟩ := hd (3, some 99) (by decide) (by decide)
      obtain ⟨h', rfl⟩ := hI.f 3 _ g0
      have y0 := hev 3 99 _ (by decide) (by decide) g0
      refine Mix.wpOp_value rfl rfl (v := .tuple #[sval N h', .int .i64 2]) (W' := W) ?_ (hk _ _ (hI.next (Below.refl _ _) ⟨h', rfl⟩))
      simp [execOp, go_sem, y0]
    · obtain ⟨v0, g0⟩ := hd (4, some 95) (by decide) (by decide)
      obtain ⟨h', rfl⟩ := hI.f 4 _ g0
      have y0 := hev 4 95 _ (by decide) (by decide) g0
      refine Mix.wpOp_value rfl rfl (v := sval N h') (W' := W) ?_ (hk _ _ (hI.next (Below.refl _ _) ⟨h', rfl⟩))
      simp [execOp, go_sem, y0]
    · obtain ⟨v0, g0⟩ := hd (4, some 95) (by decide) (by decide)
      obtain ⟨h', rfl⟩ := hI.f 4 _ g0
      have y0 := hev 4 95 _ (by decide) (by decide) g0
      refine Mix.wpOp_value rfl rfl (v := .int .i64 2) (W' := W) ?_ (hk _ _ (hI.next (Below.refl _ _) rfl))
      simp [execOp, go_sem, y0]
    · refine Mix.wpOp_value rfl rfl (v := .pointer (some ⟨W.heap.size, 0, Option.none⟩)) (W' := allocS W noneS noneH) ?_ (hk _ _ (hI.next (allocS_below W noneS noneH) ⟨_, rfl, hI.below.size, fun _ => allocS_bs W noneS noneH⟩))
      simp [execOp, go_sem, allocS]
      rfl
    · obtain ⟨v3, g3⟩ := hd (3, some 99) (by decide) (by decide)
      obtain ⟨v5, g5⟩ := hd (5, some 100) (by decide) (by decide)
      obtain ⟨v7, g7⟩ := hd (7, some 26) (by decide) (by decide)
      obtain ⟨h', rfl⟩ := hI.f 5 _ g5
      obtain ⟨b, rfl, hlb, bx⟩ := hI.f 7 _ g7
      have y5 := hev 5 100 _ (by decide) (by decide) g5
      have y7 := hev 7 26 _ (by decide) (by decide) g7
      obtain ⟨⟨c0, c1, c2, c3, c4, c5, fb⟩, -⟩ := bx hBn
      have f0 := fb 0; have f1 := fb 1; have f2 := fb 2; have f3 := fb 3; have f4 := fb 4; have f5 := fb 5
      clear fb
      refine Mix.wpOp_skip rfl rfl (W' := stS W b N h') ?_ (hk _ _ (hI.store (stS_below hI.below hlb) (by rw [g3]; simp)))
      simp [execOp, go_sem, y5, y7, c0, c1, c2, c3, c4, c5, f0, f1, f2, f3, f4, f5]
      rfl
    · obtain ⟨v6, g6⟩ := hd (6, some 101) (by decide) (by decide)
      obtain rfl : v6 = .int .i64 2 := hI.f 6 _ g6
      have y6 := hev 6 101 _ (by decide) (by decide) g6
      refine Mix.wpOp_value rfl rfl (v := .int .i64 2) (W' := W) ?_ (hk _ _ (hI.next (Below.refl _ _) rfl))
      simp [execOp, go_sem, y6]
  case tail =>
    intro B W hI hB
    obtain ⟨v0, g0⟩ := hB (0, some 96) (by decide)
    obtain ⟨v1, g1⟩ := hB (1, some 97) (by decide)
    obtain ⟨v2, g2⟩ := hB (2, some 98) (by decide)
    obtain ⟨v3, g3⟩ := hB (3, some 99) (by decide)
    obtain ⟨v4, g4⟩ := hB (4, some 95) (by decide)
    obtain ⟨v5, g5⟩ := hB (5, some 100) (by decide)
    obtain ⟨v6, g6⟩ := hB (6, some 101) (by decide)
    obtain ⟨v7, g7⟩ := hB (7, some 26) (by decide)
    obtain ⟨v8, g8⟩ := hB (8, none) (by decide)
    obtain ⟨v9, g9⟩ := hB (9, some 27) (by decide)
    obtain rfl : v9 = .int .i64 2 := hI.f 9 _ g9
    dsimp only at g0 g1 g2 g3 g4 g5 g6 g7 g8 g9
    have hA := HA.out
    subst hA
    clear HA hsz h20 hB
    simp only [nmS, Mix.putO, g0, g1, g2, g3, g4, g5, g6, g7, g8, g9]
    clear g0 g1 g2 g3 g4 g5 g6 g7 g8 g9
    have EW := Lib.hid (E27.out.next hI.below)
    have E28 := EW
    clear EW hI
    refine Mix.wpAny_tail [false, false, false, false, false, false, false, false, false, false] (Array.replicate 10 true) (by kernel_rfl) (by kernel_rfl) ?_
    simp only [Mix.maskL]
    simp only [Act.put]
    obtain ⟨-, -, -, ⟨⟨bu_0, bu_1, bu_2, bu_3, bu_4, bu_5, -⟩, bu_l⟩, -, -, -, -, -, -, -, -, -⟩ := E28.out.now
    go_wp2_with fail
    clear bu_0 bu_1 bu_2 bu_3 bu_4 bu_5 bu_l
    have E29 := Lib.hid ((E28.out.next (below_lit W (.cells #[.int .i64 0, .int .i64 3] 3))).and (St.rdk (rd_lit (k := .i64) (w := W) (news := #[.int .i64 0, .int .i64 3]) (e := 3) (zs := [0, 3]) rfl)))
    have hzA : (W.alloc (.cells #[.int .i64 0, .int .i64 3] 3)).heap.size = W.heap.size + 1 := by simp
    generalize W.alloc (.cells #[.int .i64 0, .int .i64 3] 3) = wa at *
    have E30 := Lib.hid ((E29.out.next (below_lit wa (.cells #[.int .i64 8, .int .i64 0, .int .i64 9, .int .i64 0] 43))).and (St.rd2 (by have hl := rd2_lits (w := wa) (news := #[.int .i64 8, .int .i64 0, .int .i64 9, .int .i64 0]) (zs := [(8, 0), (9, 0)]) rfl rfl (by decide); rw [hzA] at hl; exact hl)))
    generalize wa.alloc (.cells #[.int .i64 8, .int .i64 0, .int .i64 9, .int .i64 0] 43) = wb at *
    refine (HF2.out hu _ _ _ _ _ (SOwn.rd E30.out.now.2.2.2.2.2.2.1) E30.out.now.2.1 E30.out.now.1).mono ?_
    rintro e w31 ⟨hx, rfl, ho, hb⟩
    have E31 := Lib.hid ((E30.out.next hb).and (St.own ho))
    clear hb
    clear ho hzA
    obtain ⟨tg, tw, tk, tv, tc, tl⟩ := T
    dsimp only at HT1
    obtain rfl := HT1.out
    obtain ⟨vg, vw, vk, vv, vc, vl⟩ := V
    dsimp only at HT2
    obtain rfl := HT2.out
    obtain ⟨xg, xw, xk, xv, xc, xl⟩ := X
    dsimp only at HT3 HT4
    obtain rfl := HT3.out
    obtain rfl := HT4.out
    clear HT1 HT2 HT3 HT4
    obtain ⟨gc, ec, x0, -, -⟩ := own_open (E31.out.now.1).oc (j := 0) (by simp)
    have lg : gc < w31.heap.size := (own_lt (E31.out.now.1).oc gc (by rw [ec]; rfl)).2
    have y0 : w31.cell? ⟨gc, 0, Option.none⟩ = some (.int .i64 2) := x0
    clear x0
    obtain ⟨haw, hcw, hak, hck, hav, hcv, hac, hcc⟩ := hx
    dsimp only at ec
    subst ec
    obtain ⟨-, -, -, ⟨⟨bv_0, bv_1, bv_2, bv_3, bv_4, bv_5, -⟩, bv_l⟩, -, -, -, -, ⟨⟨bt_0, bt_1, bt_2, bt_3, bt_4, bt_5, -⟩, bt_l⟩, -, -, -, -, -, -, -⟩ := E31.out.now
    dsimp only at bt_0 bt_1 bt_2 bt_3 bt_4 bt_5 bv_0 bv_1 bv_2 bv_3 bv_4 bv_5
    go_wp2_with fail
    clear bt_0 bt_1 bt_2 bt_3 bt_4 bt_5 bt_l bv_0 bv_1 bv_2 bv_3 bv_4 bv_5 bv_l
    clear y0 lg
    refine wp_region_any mixed' ?_
    change wpAny _ _ _ _ (9 + 13) _ _ _
    refine Mix.any_gen (w := w31) (below_lit w31 _).drew ?_
    intro wx hbx
    have E32 := Lib.hid (E31.out.next hbx)
    clear hbx
    generalize hA : Act.mk _ _ = A1
    have hszA1 : A1.tmps.size = 228 := by rw [← hA]; rfl
    have HA1 := Lib.hid hA
    clear hA
    refine Mix.wpAny_dagO #[true, true, true, true, true, true, true, true, true, true, true, true, true, false, false, false, false, false, false, false, false, false] 9 bxS bxD (bxI wx ) (by decide) (by decide) ⟨Below.refl _ _, fun i v hv => by cases hv⟩ ?hop (by kernel_rfl) ?tail
    case hop =>
      intro p hp B W K hI hBn hd hk
      have EW := Lib.hid (E32.out.next hI.below)
      have hev : ∀ i d v, (i, some d) ∈ bxS → d < 228 → B i = some v → (Mix.putO A1 bxS B).tmps[d]?.getD undef = v := fun i d v h1 h2 h3 => by have := Mix.putO_eval A1 bxS B i d v (by decide) (by decide) h1 (by rw [hszA1]; exact h2) h3; simpa [Act.eval] using this
      simp only [bxS, List.mem_cons, List.not_mem_nil, or_false] at hp
      rcases hp with rfl | rfl | rfl | rfl | rfl | rfl | rfl | rfl | rfl | rfl | rfl | rfl | rfl
      · refine Mix.wpOp_value rfl rfl (v := sval noneS noneH) (W' := W) ?_ (hk _ _ (hI.next (Below.refl _ _) rfl))
        simp [execOp, go_sem, noneS, noneH]
      · obtain ⟨v0, g0⟩ := hd (0, some 195) (by decide) (by decide)
        obtain rfl := hI.f 0 _ g0
        have y0 := hev 0 195 _ (by decide) (by decide) g0
        refine Mix.wpOp_call rfl rfl (f := 23) (args := #[sval noneS noneH]) ?_ ((HK0.out noneH W (noneS_rd W)).mono ?_)
        · simp [execOp, resolve, y0, go_sem]
        · rintro e w' ⟨rfl, hb'⟩
          exact ⟨_, rfl, hk _ _ (hI.next hb' rfl)⟩
      · obtain ⟨v1, g1⟩ := hd (1, some 196) (by decide) (by decide)
        obtain rfl := hI.f 1 _ g1
        have y1 := hev 1 196 _ (by decide) (by decide) g1
        refine Mix.wpOp_value rfl rfl (v := .bool true) (W' := W) ?_ (hk _ _ (hI.next (Below.refl _ _) rfl))
        simp [execOp, go_sem, y1]
      · obtain ⟨v2, g2⟩ := hd (2, some 197) (by decide) (by decide)
        obtain rfl := hI.f 2 _ g2
        have y2 := hev 2 197 _ (by decide) (by decide) g2
        refine Mix.wpOp_value rfl rfl (v := .bool true) (W' := W) ?_ (hk _ _ (hI.next (Below.refl _ _) rfl))
        simp [execOp, go_sem, y2]
      · obtain ⟨vg, gg⟩ := hd (3, some 198) (by decide) (by decide)
        have eg : vg = .bool true := hI.f 3 _ gg
        subst eg
        have yg : (Mix.putO A1 bxS B).eval (.tmp 198) = .bool true := by have := hev 3 198 _ (by decide) (by decide) gg; simpa [Act.eval] using this
        refine Mix.wpOp_value rfl (Mix.wanted_at (j := 3) (d := 198) (want := true) rfl rfl (by rw [Mix.putO_size, hszA1]; decide) yg) (v := .slice (some ⟨W.heap.size, 0, Option.none⟩) 1 1) (W' := W.alloc (.cells #[.int .u64 1] 25)) ?_ (hk _ _ (hI.next (below_lit _ _) ⟨_, _, rfl, rd_lit rfl⟩))
        simp [execOp, go_sem, Act.eval]
      · obtain ⟨vg, gg⟩ := hd (3, some 198) (by decide) (by decide)
        have eg : vg = .bool true := hI.f 3 _ gg
        subst eg
        have yg : (Mix.putO A1 bxS B).eval (.tmp 198) = .bool true := by have := hev 3 198 _ (by decide) (by decide) gg; simpa [Act.eval] using this
        have hm := make4_run W
        refine Mix.wpOp_value rfl (Mix.wanted_at (j := 3) (d := 198) (want := true) rfl rfl (by rw [Mix.putO_size, hszA1]; decide) yg) (v := .slice (some ⟨W.heap.size, 0, Option.none⟩) 4 4) (W' := W.alloc (.cells (madeCells (Value.int .i64 0).cells 4) 2)) ?_ (hk _ _ (hI.next (below_lit _ _) ⟨_, _, rfl, rd_make4 W⟩))
        simp [execOp, go_sem, hm]
      · obtain ⟨vg, gg⟩ := hd (3, some 198) (by decide) (by decide)
        have eg : vg = .bool true := hI.f 3 _ gg
        subst eg
        have yg : (Mix.putO A1 bxS B).eval (.tmp 198) = .bool true := by have := hev 3 198 _ (by decide) (by decide) gg; simpa [Act.eval] using this
        have hm := make4_run W
        refine Mix.wpOp_value rfl (Mix.wanted_at (j := 3) (d := 198) (want := true) rfl rfl (by rw [Mix.putO_size, hszA1]; decide) yg) (v := .slice (some ⟨W.heap.size, 0, Option.none⟩) 4 4) (W' := W.alloc (.cells (madeCells (Value.int .i64 0).cells 4) 2)) ?_ (hk _ _ (hI.next (below_lit _ _) ⟨_, _, rfl, rd_make4 W⟩))
        simp [execOp, go_sem, hm]
      · obtain ⟨vg, gg⟩ := hd (3, some 198) (by decide) (by decide)
        have eg : vg = .bool true := hI.f 3 _ gg
        subst eg
        have yg : (Mix.putO A1 bxS B).eval (.tmp 198) = .bool true := by have := hev 3 198 _ (by decide) (by decide) gg; simpa [Act.eval] using this
        refine Mix.wpOp_value rfl (Mix.wanted_at (j := 3) (d := 198) (want := true) rfl rfl (by rw [Mix.putO_size, hszA1]; decide) yg) (v := .slice (some ⟨W.heap.size, 0, Option.none⟩) 1 1) (W' := W.alloc (.cells #[.int .i64 0] 3)) ?_ (hk _ _ (hI.next (below_lit _ _) ⟨_, _, rfl, rd_lit rfl⟩))
        simp [execOp, go_sem, Act.eval]
      · obtain ⟨vg, gg⟩ := hd (3, some 198) (by decide) (by decide)
        have eg : vg = .bool true := hI.f 3 _ gg
        subst eg
        have yg : (Mix.putO A1 bxS B).eval (.tmp 198) = .bool true := by have := hev 3 198 _ (by decide) (by decide) gg; simpa [Act.eval] using this
        obtain ⟨v4, g4⟩ := hd (4, some 199) (by decide) (by decide)
        obtain ⟨a0, k0, rfl, r0⟩ := hI.f 4 _ g4
        have y4 := hev 4 199 _ (by decide) (by decide) g4
        obtain ⟨v5, g5⟩ := hd (5, some 200) (by decide) (by decide)
        obtain ⟨a1, k1, rfl, r1⟩ := hI.f 5 _ g5
        have y5 := hev 5 200 _ (by decide) (by decide) g5
        obtain ⟨v6, g6⟩ := hd (6, some 201) (by decide) (by decide)
        obtain ⟨a2, k2, rfl, r2⟩ := hI.f 6 _ g6
        have y6 := hev 6 201 _ (by decide) (by decide) g6
        obtain ⟨v7, g7⟩ := hd (7, some 202) (by decide) (by decide)
        obtain ⟨a3, k3, rfl, r3⟩ := hI.f 7 _ g7
        have y7 := hev 7 202 _ (by decide) (by decide) g7
        refine Mix.wpOp_value rfl (Mix.wanted_at (j := 3) (d := 198) (want := true) rfl rfl (by rw [Mix.putO_size, hszA1]; decide) yg) (v := sval bad1 ⟨a0, k0, a1, k1, a2, k2, a3, k3⟩) (W' := W) ?_ (hk _ _ (hI.next (Below.refl _ _) ⟨_, rfl, ⟨r0, r1, r2, r3⟩⟩))
        simp [execOp, go_sem, bad1, y4, y5, y6, y7]
      · obtain ⟨vg, gg⟩ := hd (3, some 198) (by decide) (by decide)
        have eg : vg = .bool true := hI.f 3 _ gg
        subst eg
        have yg : (Mix.putO A1 bxS B).eval (.tmp 198) = .bool true := by have := hev 3 198 _ (by decide) (by decide) gg; simpa [Act.eval] using this
        obtain ⟨v8, g8⟩ := hd (8, some 203) (by decide) (by decide)
        obtain ⟨h', rfl, r'⟩ := hI.f 8 _ g8
        have y8 := hev 8 203 _ (by decide) (by decide) g8
        refine Mix.wpOp_call rfl (Mix.wanted_at (j := 3) (d := 198) (want := true) rfl rfl (by rw [Mix.putO_size, hszA1]; decide) yg) (f := 23) (args := #[sval bad1 h']) ?_ ((HK1.out h' W r').mono ?_)
        · simp [execOp, resolve, y8, go_sem]
        · rintro e w' ⟨rfl, hb'⟩
          exact ⟨_, rfl, hk _ _ (hI.next hb' rfl)⟩
      · obtain ⟨vg, gg⟩ := hd (3, some 198) (by decide) (by decide)
        have eg : vg = .bool true := hI.f 3 _ gg
        subst eg
        have yg : (Mix.putO A1 bxS B).eval (.tmp 198) = .bool true := by have := hev 3 198 _ (by decide) (by decide) gg; simpa [Act.eval] using this
        obtain ⟨v9, g9⟩ := hd (9, some 204) (by decide) (by decide)
        obtain rfl := hI.f 9 _ g9
        have y9 := hev 9 204 _ (by decide) (by decide) g9
        refine Mix.wpOp_value rfl (Mix.wanted_at (j := 3) (d := 198) (want := true) rfl rfl (by rw [Mix.putO_size, hszA1]; decide) yg) (v := .bool true) (W' := W) ?_ (hk _ _ (hI.next (Below.refl _ _) rfl))
        simp [execOp, go_sem, y9]
      · obtain ⟨v3, g3⟩ := hd (3, some 198) (by decide) (by decide)
        obtain rfl := hI.f 3 _ g3
        have y3 := hev 3 198 _ (by decide) (by decide) g3
        obtain ⟨v10, g10⟩ := hd (10, some 205) (by decide) (by decide)
        obtain rfl := hI.f 10 _ g10
        have y10 := hev 10 205 _ (by decide) (by decide) g10
        refine Mix.wpOp_value rfl rfl (v := .bool true) (W' := W) ?_ (hk _ _ (hI.next (Below.refl _ _) rfl))
        simp [execOp, go_sem, y3, y10]
      · obtain ⟨v11, g11⟩ := hd (11, some 206) (by decide) (by decide)
        obtain rfl := hI.f 11 _ g11
        have y11 := hev 11 206 _ (by decide) (by decide) g11
        refine Mix.wpOp_value rfl rfl (v := .bool true) (W' := W) ?_ (hk _ _ (hI.next (Below.refl _ _) rfl))
        simp [execOp, go_sem, y11]
    case tail =>
      intro B1 W1 hI hB
      obtain ⟨v0, g0⟩ := hB (0, some 195) (by decide)
      obtain ⟨v1, g1⟩ := hB (1, some 196) (by decide)
      obtain ⟨v2, g2⟩ := hB (2, some 197) (by decide)
      obtain ⟨v3, g3⟩ := hB (3, some 198) (by decide)
      obtain ⟨v4, g4⟩ := hB (4, some 199) (by decide)
      obtain ⟨v5, g5⟩ := hB (5, some 200) (by decide)
      obtain ⟨v6, g6⟩ := hB (6, some 201) (by decide)
      obtain ⟨v7, g7⟩ := hB (7, some 202) (by decide)
      obtain ⟨v8, g8⟩ := hB (8, some 203) (by decide)
      obtain ⟨v9, g9⟩ := hB (9, some 204) (by decide)
      obtain ⟨v10, g10⟩ := hB (10, some 205) (by decide)
      obtain ⟨v11, g11⟩ := hB (11, some 206) (by decide)
      obtain ⟨v12, g12⟩ := hB (12, some 207) (by decide)
      dsimp only at g0 g1 g2 g3 g4 g5 g6 g7 g8 g9 g10 g11 g12
      obtain rfl : v12 = .bool true := hI.f 12 _ g12
      clear hB
      have EW := Lib.hid (E32.out.next hI.below)
      have E33 := EW
      clear EW
      have hg207 : (Mix.putO A1 bxS B1).eval (.tmp 207) = .bool true := Mix.putO_eval A1 bxS B1 12 207 _ (by decide) (by decide) (by decide) (by rw [hszA1]; decide) g12
      have hszA2 : (Mix.putO A1 bxS B1).tmps.size = 228 := by rw [Mix.putO_size, hszA1]
      generalize hA2 : Mix.putO A1 bxS B1 = A2 at hg207 hszA2 ⊢
      have HA2 := Lib.hid hA2
      clear hA2
      change wpAny _ _ _ _ (0 + 9) _ _ _
      refine Mix.wpAny_dagO (Array.replicate 22 true) 0 byS byD (byI W1 ) (by decide) (by decide) ⟨Below.refl _ _, fun i v hv => by cases hv⟩ ?hop (by kernel_rfl) ?tail
      case hop =>
        intro p hp B W K hI hBn hd hk
        have EW := Lib.hid (E33.out.next hI.below)
        have hg207' : (Mix.putO A2 byS B).tmps[207]?.getD undef = .bool true := by have := (Mix.putO_ne A2 byS B 207 (by decide)).trans hg207; simpa [Act.eval] using this
        have hev : ∀ i d v, (i, some d) ∈ byS → d < 228 → B i = some v → (Mix.putO A2 byS B).tmps[d]?.getD undef = v := fun i d v h1 h2 h3 => by have := Mix.putO_eval A2 byS B i d v (by decide) (by decide) h1 (by rw [hszA2]; exact h2) h3; simpa [Act.eval] using this
        simp only [byS, List.mem_cons, List.not_mem_nil, or_false] at hp
        rcases hp with rfl | rfl | rfl | rfl | rfl | rfl | rfl | rfl | rfl
        · have yg : (Mix.putO A2 byS B).eval (.tmp 207) = .bool true := (Mix.putO_ne A2 byS B 207 (by decide)).trans hg207
          refine Mix.wpOp_value rfl (Mix.wanted_at (j := 12) (d := 207) (want := true) rfl rfl (by rw [Mix.putO_size, hszA2]; decide) yg) (v := .slice (some ⟨W.heap.size, 0, Option.none⟩) 1 1) (W' := W.alloc (.cells #[.int .u64 0] 25)) ?_ (hk _ _ (hI.next (below_lit _ _) ⟨_, _, rfl, rd_lit rfl⟩))
          simp [execOp, go_sem, Act.eval]
        · have yg : (Mix.putO A2 byS B).eval (.tmp 207) = .bool true := (Mix.putO_ne A2 byS B 207 (by decide)).trans hg207
          refine Mix.wpOp_value rfl (Mix.wanted_at (j := 12) (d := 207) (want := true) rfl rfl (by rw [Mix.putO_size, hszA2]; decide) yg) (v := .slice (some ⟨W.heap.size, 0, Option.none⟩) 4 4) (W' := W.alloc (.cells #[.int .i64 1, .int .i64 0, .int .i64 0, .int .i64 0] 2)) ?_ (hk _ _ (hI.next (below_lit _ _) ⟨_, _, rfl, rd_lit rfl⟩))
          simp [execOp, go_sem, Act.eval]
        · have yg : (Mix.putO A2 byS B).eval (.tmp 207) = .bool true := (Mix.putO_ne A2 byS B 207 (by decide)).trans hg207
          have hm := make4_run W
          refine Mix.wpOp_value rfl (Mix.wanted_at (j := 12) (d := 207) (want := true) rfl rfl (by rw [Mix.putO_size, hszA2]; decide) yg) (v := .slice (some ⟨W.heap.size, 0, Option.none⟩) 4 4) (W' := W.alloc (.cells (madeCells (Value.int .i64 0).cells 4) 2)) ?_ (hk _ _ (hI.next (below_lit _ _) ⟨_, _, rfl, rd_make4 W⟩))
          simp [execOp, go_sem, hm]
        · have yg : (Mix.putO A2 byS B).eval (.tmp 207) = .bool true := (Mix.putO_ne A2 byS B 207 (by decide)).trans hg207
          refine Mix.wpOp_value rfl (Mix.wanted_at (j := 12) (d := 207) (want := true) rfl rfl (by rw [Mix.putO_size, hszA2]; decide) yg) (v := .slice (some ⟨W.heap.size, 0, Option.none⟩) 1 1) (W' := W.alloc (.cells #[.int .i64 0] 3)) ?_ (hk _ _ (hI.next (below_lit _ _) ⟨_, _, rfl, rd_lit rfl⟩))
          simp [execOp, go_sem, Act.eval]
        · have yg : (Mix.putO A2 byS B).eval (.tmp 207) = .bool true := (Mix.putO_ne A2 byS B 207 (by decide)).trans hg207
          obtain ⟨v13, g13⟩ := hd (13, some 208) (by decide) (by decide)
          obtain ⟨a0, k0, rfl, r0⟩ := hI.f 13 _ g13
          have y13 := hev 13 208 _ (by decide) (by decide) g13
          obtain ⟨v14, g14⟩ := hd (14, some 209) (by decide) (by decide)
          obtain ⟨a1, k1, rfl, r1⟩ := hI.f 14 _ g14
          have y14 := hev 14 209 _ (by decide) (by decide) g14
          obtain ⟨v15, g15⟩ := hd (15, some 210) (by decide) (by decide)
          obtain ⟨a2, k2, rfl, r2⟩ := hI.f 15 _ g15
          have y15 := hev 15 210 _ (by decide) (by decide) g15
          obtain ⟨v16, g16⟩ := hd (16, some 211) (by decide) (by decide)
          obtain ⟨a3, k3, rfl, r3⟩ := hI.f 16 _ g16
          have y16 := hev 16 211 _ (by decide) (by decide) g16
          refine Mix.wpOp_value rfl (Mix.wanted_at (j := 12) (d := 207) (want := true) rfl rfl (by rw [Mix.putO_size, hszA2]; decide) yg) (v := sval bad2 ⟨a0, k0, a1, k1, a2, k2, a3, k3⟩) (W' := W) ?_ (hk _ _ (hI.next (Below.refl _ _) ⟨_, rfl, ⟨r0, r1, r2, r3⟩⟩))
          simp [execOp, go_sem, bad2, y13, y14, y15, y16]
        · have yg : (Mix.putO A2 byS B).eval (.tmp 207) = .bool true := (Mix.putO_ne A2 byS B 207 (by decide)).trans hg207
          obtain ⟨v17, g17⟩ := hd (17, some 212) (by decide) (by decide)
          obtain ⟨h', rfl, r'⟩ := hI.f 17 _ g17
          have y17 := hev 17 212 _ (by decide) (by decide) g17
          refine Mix.wpOp_call rfl (Mix.wanted_at (j := 12) (d := 207) (want := true) rfl rfl (by rw [Mix.putO_size, hszA2]; decide) yg) (f := 23) (args := #[sval bad2 h']) ?_ ((HK2.out h' W r').mono ?_)
          · simp [execOp, resolve, y17, go_sem]
          · rintro e w' ⟨rfl, hb'⟩
            exact ⟨_, rfl, hk _ _ (hI.next hb' rfl)⟩
        · have yg : (Mix.putO A2 byS B).eval (.tmp 207) = .bool true := (Mix.putO_ne A2 byS B 207 (by decide)).trans hg207
          obtain ⟨v18, g18⟩ := hd (18, some 213) (by decide) (by decide)
          obtain rfl := hI.f 18 _ g18
          have y18 := hev 18 213 _ (by decide) (by decide) g18
          refine Mix.wpOp_value rfl (Mix.wanted_at (j := 12) (d := 207) (want := true) rfl rfl (by rw [Mix.putO_size, hszA2]; decide) yg) (v := .bool true) (W' := W) ?_ (hk _ _ (hI.next (Below.refl _ _) rfl))
          simp [execOp, go_sem, y18]
        · obtain ⟨v19, g19⟩ := hd (19, some 214) (by decide) (by decide)
          obtain rfl := hI.f 19 _ g19
          have y19 := hev 19 214 _ (by decide) (by decide) g19
          refine Mix.wpOp_value rfl rfl (v := .bool true) (W' := W) ?_ (hk _ _ (hI.next (Below.refl _ _) rfl))
          simp [execOp, go_sem, y19, hg207']
        · obtain ⟨v20, g20⟩ := hd (20, some 215) (by decide) (by decide)
          obtain rfl := hI.f 20 _ g20
          have y20 := hev 20 215 _ (by decide) (by decide) g20
          refine Mix.wpOp_value rfl rfl (v := .bool true) (W' := W) ?_ (hk _ _ (hI.next (Below.refl _ _) rfl))
          simp [execOp, go_sem, y20]
      case tail =>
        intro B W hI hB
        obtain ⟨v13, g13⟩ := hB (13, some 208) (by decide)
        obtain ⟨v14, g14⟩ := hB (14, some 209) (by decide)
        obtain ⟨v15, g15⟩ := hB (15, some 210) (by decide)
        obtain ⟨v16, g16⟩ := hB (16, some 211) (by decide)
        obtain ⟨v17, g17⟩ := hB (17, some 212) (by decide)
        obtain ⟨v18, g18⟩ := hB (18, some 213) (by decide)
        obtain ⟨v19, g19⟩ := hB (19, some 214) (by decide)
        obtain ⟨v20, g20⟩ := hB (20, some 215) (by decide)
        obtain ⟨v21, g21⟩ := hB (21, some 32) (by decide)
        dsimp only at g13 g14 g15 g16 g17 g18 g19 g20 g21
        obtain rfl : v21 = .bool true := hI.f 21 _ g21
        have EW := Lib.hid (E33.out.next hI.below)
        have E34 := EW
        clear EW
        have hAA2 := HA2.out
        subst hAA2
        clear HA2 hszA2
        have hAA1 := HA1.out
        subst hAA1
        clear HA1 hszA1
        simp only [byS, bxS, Mix.putO, g13, g14, g15, g16, g17, g18, g19, g20, g21, g0, g1, g2, g3, g4, g5, g6, g7, g8, g9, g10, g11, g12]
        simp only [Act.put]
        clear g13 g14 g15 g16 g17 g18 g19 g20 g21 g0 g1 g2 g3 g4 g5 g6 g7 g8 g9 g10 g11 g12
        refine Mix.wpAny_tail [false, false, false, false, false, false, false, false, false, false, false, false, false, false, false, false, false, false, false, false, false, false] (Array.replicate 22 true) (by kernel_rfl) (by kernel_rfl) ?_
        simp only [Mix.maskL]
        go_wp2_with fail
        refine (HAL.out _).mono ?_
        rintro e w35 ⟨rfl, hb⟩
        have E35 := Lib.hid (E34.out.next hb)
        clear hb
        go_wp2_with fail
        go_ret
        exact ⟨by simp, E35.out.now.2.2.2.2.2.2.2.2.2.2.2.2.2.2.2⟩
end Go.Proofs.Ytfdkaahkhgljdaa.Slo
