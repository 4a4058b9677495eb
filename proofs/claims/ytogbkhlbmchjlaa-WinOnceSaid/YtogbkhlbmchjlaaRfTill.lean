/- A range over an iterator that never ends by itself: the body says, in time, that it wants no more. -/
import Derived.Test.YtogbkhlbmchjlaaRf
namespace Go.Proofs.Ytogbkhlbmchjlaa
open Go.RowKit

/-- An iterator that goes on until a round says 'no more'; a caller's invariant that holds of fewer than N rounds alone. -/
def SeqTill {α : Type} (m : Nat) (P : Program) (g : Nat) (lb : Array Value) (encs : α → Array Value) (f : Nat → α) (Kp : World → World → Prop) (Sp : List α → Prop) (N : Nat) (w : World) : Prop :=
  ∀ (l : Nat) (J Jx : List α → World → Prop) (W : World), Below w.heap.size w W → AbidesFrom W.heap.size J → (∀ pre W1, J pre W1 → pre.length < N) →
    (∀ pre W1, J pre W1 → YieldAt Fence.wide (m - 1) P l (encs (f pre.length)) W1 fun e W' => (e = .returned (.bool true) ∧ J (pre ++ [f pre.length]) W' ∧ Kp W1 W') ∨ (e = .returned (.bool false) ∧ Jx (pre ++ [f pre.length]) W')) →
    J [] W → CallsIn Fence.wide m P g (#[.func (.yield l) #[] #[]] ++ lb) W fun e W' => (∃ v, e = .returned v) ∧ ∃ pre, Sp pre ∧ Jx pre W'

section
variable {m : Nat} {P : Program}

/-- What the loop's record says. -/
def recOf (fn : FuncId) (T : Array Value) (ps : Array Tmp) (assign body : Code) (D : Nat) (st : LoopState) (pe : Option Code) : Loop := { state := st, pending := pe, fn, tmps := T, params := ps, assign, body, defers := D }

/-- The loop's record and the block of the rounds' deferred calls lie so. -/
structure Marks (W : World) (l D : Nat) (r : Loop) : Prop where
  lrec : W.heap[l]? = some (.loop r)
  dfr : W.heap[D]? = some (.deferred (some []))
theorem Marks.put {W : World} {l D : Nat} {r r' : Loop} (h : Marks W l D r) (hne : D ≠ l) : Marks (W.putObj l (.loop r')) l D r' :=
  ⟨World.putObj_heap_same (Array.getElem?_eq_some_iff.1 h.lrec).1, (World.putObj_heap_other hne).trans h.dfr⟩
theorem Marks.kept {W W' : World} {l D B : Nat} {r : Loop} (h : Marks W l D r) (hk : KeepsFrom B W W') (hl : B ≤ l) (hD : B ≤ D) : Marks W' l D r := ⟨hk.same _ _ hl h.lrec rfl, hk.same _ _ hD h.dfr rfl⟩
theorem Marks.walk {W W' : World} {l D : Nat} {r : Loop} {row : Option Nat} (h : Marks W l D r) (hg : W.grownBy W' row) (hr : ∀ i, row = some i → ∃ o : Obj, W.heap[i]? = some o ∧ o.isWalk = true) : Marks W' l D r :=
  ⟨(grownBy_keeps hg hr h.lrec rfl).trans h.lrec, (grownBy_keeps hg hr h.dfr rfl).trans h.dfr⟩

theorem rangeFunc_till {α : Type} {g : Operand} {ps : Array Tmp} {assign body : Code} {Q : Exit → Act → World → Prop} {a : Act} {w : World}
    {gf : Nat} {lb : Array Value} (hg : a.eval g = .func (.func gf) #[] lb) (eg : ∀ args w, (callFunc gf args).run P w = .ok (.enter gf args) w)
    {encs : α → Array Value} {f : Nat → α} {Kp : World → World → Prop} {Sp : List α → Prop} {N : Nat} (hseq : SeqTill (m - 1) P gf lb encs f Kp Sp N w)
    (hKt : ∀ {A B C : World}, Kp A B → Kp B C → Kp A C) (hKb : ∀ (W : World) (l : Nat) (o o' : Obj), w.heap.size ≤ l → W.heap[l]? = some o → o.isCells = false → o.isWalk = false → Kp W (W.putObj l o')) (hps : ∀ x, (encs x).size = ps.size)
    (I : List α → World → Prop) (Ix : Code → List α → World → Prop) (hI : OwnFrom w.heap.size I) (hIx : ∀ c, OwnFrom w.heap.size (Ix c)) (hN : ∀ pre W, I pre W → pre.length < N) (h0 : I [] w)
    (Ax : α → Act → World → Prop) (hAx : ∀ x a', OwnFrom w.heap.size (fun (_ : Unit) W => Ax x a' W))
    (hassign : ∀ (l : Nat) (pre : List α) (x : α) (W : World) (K : Act → World → Prop), x = f pre.length → I pre W → (∀ a' W', KeepsFrom w.heap.size W W' → Kp W W' → I pre W' → Ax x a' W' → K a' W') →
      assign.wpIn (Fence.wide.inRound l) (m - 1 - 1) P (Exit.then K (fun _ _ _ => False)) { tmps := (ps.zip (encs x)).foldl (fun t (p, v) => t.setIfInBounds p v) a.tmps, defers := [] } W)
    (hbody : ∀ (l : Nat) (pre : List α) (x : α) (a' : Act) (W : World), x = f pre.length → I pre W → Ax x a' W → body.wpIn (Fence.wide.inRound l) (m - 1 - 1) P (ownPostG w.heap.size Kp I Ix (pre ++ [x]) W) a' W)
    (hstop : ∀ (D : Nat) (c : Code) (pre : List α) (W : World), w.heap.size ≤ D → Sp pre → Ix c pre W → W.heap[D]? = some (.deferred (some [])) → c.wpIn Fence.wide m P Q { a with defers := { target := .collected D, args := #[] } :: a.defers } W) :
    (Code.rangeFunc g ps assign body).wpIn Fence.wide m P Q a w := by
  refine wpIn_rangeFunc ?_
  intro fn hfn
  have hL : Marks ((w.alloc (.deferred (some []))).alloc (.loop (recOf fn a.tmps ps assign body w.heap.size .ready Option.none))) (w.heap.size + 1) w.heap.size (recOf fn a.tmps ps assign body w.heap.size .ready Option.none) :=
    ⟨by have := World.alloc_heap_new (w.alloc (.deferred (some []))) (.loop (recOf fn a.tmps ps assign body w.heap.size .ready Option.none)); rwa [World.size_alloc] at this,
     (Below.heap_alloc _ _ _ (by simp)).trans (World.alloc_heap_new w _)⟩
  have hB : Below w.heap.size w ((w.alloc (.deferred (some []))).alloc (.loop (recOf fn a.tmps ps assign body w.heap.size .ready Option.none))) := ((Below.refl _ w).alloc (Nat.le_refl _) _).alloc (by simp) _
  have hI1 := hI.alloc (.loop (recOf fn a.tmps ps assign body w.heap.size .ready Option.none)) (hI.alloc (.deferred (some [])) h0)
  have henter := run_enterLoop_outer (P := P) (w := w) fn a.tmps ps assign body
  obtain ⟨W1, hW1⟩ : ∃ W1, (w.alloc (.deferred (some []))).alloc (.loop (recOf fn a.tmps ps assign body w.heap.size .ready Option.none)) = W1 := ⟨_, rfl⟩
  rw [hW1] at hL hB hI1
  have hz : w.heap.size + 2 = W1.heap.size := by rw [← hW1]; simp
  refine ⟨w.heap.size + 1, [{ target := .collected w.heap.size, args := #[] }], W1, { target := .fn (.func gf) lb, args := #[.func (.yield (w.heap.size + 1)) #[] #[]] }, W1, gf, #[.func (.yield (w.heap.size + 1)) #[] #[]] ++ lb, W1, ?_, ?_, fun _ _ => trivial, ?_, fun h => (by cases h), ?_⟩
  · rw [← hW1]; exact henter
  · simp only [resolve, hg]
    simp [go_sem]
  · simp [invoke, go_sem, eg]
  refine (hseq (w.heap.size + 1) (fun pre W => I pre W ∧ Marks W (w.heap.size + 1) w.heap.size (recOf fn a.tmps ps assign body w.heap.size .ready Option.none))
    (fun pre W => ∃ c, Ix c pre W ∧ Marks W (w.heap.size + 1) w.heap.size (recOf fn a.tmps ps assign body w.heap.size .done (some c))) W1 hB ?_ (fun pre W h => hN pre W h.1) ?_ ⟨hI1, hL⟩).mono ?_
  · intro s A B row hs hg' hr
    exact ⟨hI s A B row hs.1 hg' (fun r e => by obtain ⟨h1, o, ho, hw⟩ := hr r e; exact ⟨by omega, o, ho, Obj.not_cells_of_walk hw⟩), hs.2.walk hg' (fun r e => (hr r e).2)⟩
  · rintro pre W ⟨hi, hm⟩
    obtain ⟨x, hx⟩ : ∃ x, x = f pre.length := ⟨_, rfl⟩
    rw [← hx]
    have hy := run_yield (P := P) (args := encs x) hm.lrec (hps x)
    refine ⟨fn, _, assign, body, hy, roundIn_of_wpIn hfn (hassign _ pre x W _ hx hi (fun a' W' hk0 hkp0 hi0 hax => ?_))⟩
    have hm := hm.kept hk0 (by omega) (Nat.le_refl _)
    refine ⟨_, run_beginRound hm.lrec rfl, ?_⟩
    have hm2 := hm.put (r' := recOf fn a.tmps ps assign body w.heap.size .busy Option.none) (by omega)
    have hi2 := hI.putObj (.loop (recOf fn a.tmps ps assign body w.heap.size .busy Option.none)) hi0 (by omega) hm.lrec rfl
    have hax2 := (hAx x a').putObj (s := ()) (.loop (recOf fn a.tmps ps assign body w.heap.size .busy Option.none)) hax (by omega) hm.lrec rfl
    have hk1 := hKt hkp0 (hKb W' (w.heap.size + 1) _ (.loop (recOf fn a.tmps ps assign body w.heap.size .busy Option.none)) (by omega) hm.lrec rfl rfl)
    refine wpIn_mono (hbody _ pre x _ _ hx hi2 hax2) ?_
    have fin : ∀ (jump : Option Code) (W3 : World), KeepsFrom w.heap.size (W'.putObj (w.heap.size + 1) (.loop (recOf fn a.tmps ps assign body w.heap.size .busy Option.none))) W3 → ∃ W4,
        (Instr.endRound (w.heap.size + 1) jump).run P W3 = .ok (.bool jump.isNone) W4 ∧ W4 = W3.putObj (w.heap.size + 1) (.loop (recOf fn a.tmps ps assign body w.heap.size (if jump.isNone then .ready else .done) jump)) ∧
        W3.heap[w.heap.size + 1]? = some (.loop (recOf fn a.tmps ps assign body w.heap.size .busy Option.none)) ∧ Marks W4 (w.heap.size + 1) w.heap.size (recOf fn a.tmps ps assign body w.heap.size (if jump.isNone then .ready else .done) jump) := fun jump W3 hk => by
      have h3 := hm2.kept hk (by omega) (Nat.le_refl _)
      exact ⟨_, run_endRound (P := P) jump h3.lrec, rfl, h3.lrec, h3.put (by omega)⟩
    have leave : ∀ (c : Code) (W3 : World), KeepsFrom w.heap.size (W'.putObj (w.heap.size + 1) (.loop (recOf fn a.tmps ps assign body w.heap.size .busy Option.none))) W3 → Ix c (pre ++ [x]) W3 →
        ∃ W4, (Instr.endRound (w.heap.size + 1) (some c)).run P W3 = .ok (.bool false) W4 ∧ Ix c (pre ++ [x]) W4 ∧ Marks W4 (w.heap.size + 1) w.heap.size (recOf fn a.tmps ps assign body w.heap.size .done (some c)) := fun c W3 hk hx => by
      obtain ⟨W4, h1, rfl, h2, h3⟩ := fin (some c) W3 hk
      exact ⟨_, h1, (hIx c).putObj _ hx (by omega) h2 rfl, h3⟩
    intro e a3 W3 hp
    cases e with
    | normal =>
      obtain ⟨W4, h1, rfl, h2, h3⟩ := fin Option.none W3 hp.1
      exact ⟨_, _, h1, .inl ⟨rfl, ⟨hI.putObj _ hp.2.2 (by omega) h2 rfl, h3⟩, hKt (hKt hk1 hp.2.1) (hKb _ _ _ _ (by omega) h2 rfl rfl)⟩⟩
    | ret =>
      obtain ⟨W4, h1, h2, h3⟩ := leave .ret W3 hp.1 hp.2
      exact ⟨_, _, h1, .inr ⟨rfl, .ret, h2, h3⟩⟩
    | exit id =>
      obtain ⟨W4, h1, h2, h3⟩ := leave (.exit id) W3 hp.1 hp.2
      exact ⟨_, _, h1, .inr ⟨rfl, .exit id, h2, h3⟩⟩
    | goto t =>
      obtain ⟨W4, h1, h2, h3⟩ := leave (.goto t) W3 hp.1 hp.2
      exact ⟨_, _, h1, .inr ⟨rfl, .goto t, h2, h3⟩⟩
    | panic ch => exact hp.elim
    | outgrown => exact hp.elim
  · rintro e W2 ⟨⟨v, rfl⟩, pre, hSp, c, hi, hm⟩
    have hend := run_endLoop (P := P) hm.lrec (by simp [recOf])
    refine ⟨some c, _, hend, ?_⟩
    exact hstop _ c pre _ (Nat.le_refl _) hSp ((hIx c).putObj _ hi (by omega) hm.lrec rfl) ((World.putObj_heap_other (by omega)).trans hm.dfr)

/-- The same, the loop's frame being read off the goal; a loop variable lies in a box. -/
theorem rangeFunc_tillB {α : Type} {g : Operand} {ps : Array Tmp} {assign body : Code} {Q : Exit → Act → World → Prop} {a : Act} {w : World}
    (qs : α → Nat → List (Tmp × Value)) (Bp : α → Nat → World → Prop) {gf : Nat} {lb : Array Value} (hg : a.eval g = .func (.func gf) #[] lb) (eg : ∀ args w, (callFunc gf args).run P w = .ok (.enter gf args) w)
    {encs : α → Array Value} {f : Nat → α} {Kp : World → World → Prop} {Sp : List α → Prop} {N : Nat} (hseq : SeqTill (m - 1) P gf lb encs f Kp Sp N w)
    (hKt : ∀ {A B C : World}, Kp A B → Kp B C → Kp A C) (hKb : ∀ (W : World) (l : Nat) (o o' : Obj), w.heap.size ≤ l → W.heap[l]? = some o → o.isCells = false → o.isWalk = false → Kp W (W.putObj l o')) (hps : ∀ x, (encs x).size = ps.size)
    (I : List α → World → Prop) (Ix : Code → List α → World → Prop) (hI : OwnFrom w.heap.size I) (hIx : ∀ c, OwnFrom w.heap.size (Ix c)) (hN : ∀ pre W, I pre W → pre.length < N) (h0 : I [] w)
    (hBp : ∀ x Bx, OwnFrom w.heap.size (fun (_ : Unit) W => Bp x Bx W))
    (hassign : ∀ (l : Nat) (pre : List α) (x : α) (W : World) (K : Act → World → Prop), x = f pre.length → I pre W → (∀ Bx W', KeepsFrom w.heap.size W W' → Kp W W' → I pre W' → Bp x Bx W' → K { tmps := (qs x Bx).foldl (fun t pv => t.setIfInBounds pv.1 pv.2) a.tmps, defers := [] } W') →
      assign.wpIn (Fence.wide.inRound l) (m - 1 - 1) P (Exit.then K (fun _ _ _ => False)) { tmps := (ps.zip (encs x)).foldl (fun t (p, v) => t.setIfInBounds p v) a.tmps, defers := [] } W)
    (hbody : ∀ (l : Nat) (pre : List α) (x : α) (Bx : Nat) (W : World), x = f pre.length → I pre W → Bp x Bx W → body.wpIn (Fence.wide.inRound l) (m - 1 - 1) P (ownPostG w.heap.size Kp I Ix (pre ++ [x]) W) { tmps := (qs x Bx).foldl (fun t pv => t.setIfInBounds pv.1 pv.2) a.tmps, defers := [] } W)
    (hstop : ∀ (D : Nat) (c : Code) (pre : List α) (W : World), w.heap.size ≤ D → Sp pre → Ix c pre W → W.heap[D]? = some (.deferred (some [])) → c.wpIn Fence.wide m P Q { a with defers := { target := .collected D, args := #[] } :: a.defers } W) :
    (Code.rangeFunc g ps assign body).wpIn Fence.wide m P Q a w :=
  rangeFunc_till hg eg hseq hKt hKb hps I Ix hI hIx hN h0
    (fun x a' W => ∃ Bx, Bp x Bx W ∧ a' = { tmps := (qs x Bx).foldl (fun t pv => t.setIfInBounds pv.1 pv.2) a.tmps, defers := [] })
    (fun x a' s A B row hs hg' hr => by obtain ⟨Bx, hb, e⟩ := hs; exact ⟨Bx, hBp x Bx () A B row hb hg' hr, e⟩)
    (fun l pre x W K hx hi hK => hassign l pre x W K hx hi (fun Bx W' h1 h2 h3 h4 => hK _ W' h1 h2 h3 ⟨Bx, h4, rfl⟩))
    (fun l pre x a' W hx hi hax => by obtain ⟨Bx, hb, rfl⟩ := hax; exact hbody l pre x Bx W hx hi hb) hstop
end
end Go.Proofs.Ytogbkhlbmchjlaa
