/- Lists of pairs of numbers in memory: each pair two cells. -/
import Derived.Test.YtogbkhlbmchjlaaLists
import Derived.Laws.StructEq
namespace Go.Proofs.Ytogbkhlbmchjlaa
open Go.RowKit Go.Shelf

def pcells (P : List (Int × Int)) : List Value := P.flatMap (fun p => [.int .i64 p.1, .int .i64 p.2])
theorem pcells_append (P Q : List (Int × Int)) : pcells (P ++ Q) = pcells P ++ pcells Q := by simp [pcells]
theorem pcells_length (P : List (Int × Int)) : (pcells P).length = P.length * 2 := by
  induction P with
  | nil => rfl
  | cons p P ih => rw [show p :: P = [p] ++ P from rfl, pcells_append, List.length_append, ih]; simp [pcells]; omega
theorem pcells_get (P : List (Int × Int)) (i : Nat) (h : i < P.length) : (pcells P)[i * 2]? = some (.int .i64 (P.getD i (0, 0)).1) ∧ (pcells P)[i * 2 + 1]? = some (.int .i64 (P.getD i (0, 0)).2) := by
  induction P generalizing i with
  | nil => simp at h
  | cons p P ih =>
    rw [show pcells (p :: P) = .int .i64 p.1 :: .int .i64 p.2 :: pcells P from rfl]
    cases i with
    | zero => exact ⟨rfl, rfl⟩
    | succ i =>
      have := ih i (by simpa using h)
      rw [show (i + 1) * 2 = i * 2 + 2 by omega]
      exact this
theorem pcells_one (P : List (Int × Int)) : ∀ u ∈ pcells P, u.oneCell' = true := by
  intro u hu
  unfold pcells at hu
  obtain ⟨p, _, hp⟩ := List.mem_flatMap.1 hu
  simp at hp
  rcases hp with rfl | rfl <;> rfl

/-- The pairs P stand in a row of cells at the address (which is any, where there are none). -/
def Rd2 (w : World) (a : Option Addr) (P : List (Int × Int)) : Prop :=
  P = [] ∨ ∃ b off, a = some ⟨b, off, Option.none⟩ ∧ b < w.heap.size ∧ ∀ i, i < P.length → w.cell? ⟨b, off + i * 2, Option.none⟩ = some (.int .i64 (P.getD i (0, 0)).1) ∧ w.cell? ⟨b, off + i * 2 + 1, Option.none⟩ = some (.int .i64 (P.getD i (0, 0)).2)
theorem Rd2.nil {w : World} {a : Option Addr} : Rd2 w a [] := .inl rfl
theorem Rd2.mono {w w1 : World} {a : Option Addr} {P : List (Int × Int)} {n : Nat} (h : Rd2 w a P) (hb : Below n w w1) (hn : w.heap.size ≤ n) : Rd2 w1 a P := by
  rcases h with h | ⟨b, off, ha, hlt, hc⟩
  · exact .inl h
  · exact .inr ⟨b, off, ha, Nat.lt_of_lt_of_le hlt hb.size, fun i hi => ⟨(hb.cell (p := ⟨b, off + i * 2, Option.none⟩) (Nat.lt_of_lt_of_le hlt hn)).trans (hc i hi).1, (hb.cell (p := ⟨b, off + i * 2 + 1, Option.none⟩) (Nat.lt_of_lt_of_le hlt hn)).trans (hc i hi).2⟩⟩
theorem Rd2.at {w w1 : World} {a : Option Addr} {P : List (Int × Int)} {n i : Nat} (h : Rd2 w a P) (hb : Below n w w1) (hn : w.heap.size ≤ n) (hi : i < P.length) :
    ∃ b off, a = some ⟨b, off, Option.none⟩ ∧ w1.cell? ⟨b, off + i * 2, Option.none⟩ = some (.int .i64 (P.getD i (0, 0)).1) ∧ w1.cell? ⟨b, off + i * 2 + 1, Option.none⟩ = some (.int .i64 (P.getD i (0, 0)).2) := by
  rcases h.mono hb hn with h | ⟨b, off, ha, _, hc⟩
  · subst h; simp at hi
  · exact ⟨b, off, ha, (hc i hi).1, (hc i hi).2⟩
/-- What a call has made and owns. -/
theorem owns2_arg {w : World} {base : Nat} {e : TypeId} {v : Value} {n : Nat} {P : List (Int × Int)} (h : w.ownsRow base e 2 v n (pcells P)) :
    ∃ a cap, v = .slice a P.length cap ∧ n = P.length ∧ Rd2 w a P ∧ P.length ≤ cap ∧ (a = Option.none → cap = 0) ∧ cap ≤ maxLen := by
  have hn : n = P.length := by have := h.1; rw [pcells_length] at this; omega
  subst hn
  rcases h.2 with ⟨rfl, h0⟩ | ⟨g, cap, cur, rfl, hg, hh, hc, hm, hs, ht⟩
  · have hP : P = [] := by cases P with
      | nil => rfl
      | cons _ _ => simp at h0
    subst hP
    exact ⟨Option.none, 0, rfl, rfl, .inl rfl, Nat.le_refl _, fun _ => rfl, Nat.zero_le _⟩
  · refine ⟨some ⟨g, 0, Option.none⟩, cap, rfl, rfl, .inr ⟨g, 0, rfl, ?_, fun i hi => ?_⟩, hc, (by intro h; cases h), hm⟩
    · rcases Nat.lt_or_ge g w.heap.size with h | h
      · exact h
      · rw [Array.getElem?_eq_none h] at hh; cases hh
    · have key : ∀ j, j < P.length * 2 → cur[j]? = (pcells P)[j]? := fun j hj => by
        rw [← ht, List.getElem?_take_of_lt hj, Array.getElem?_toList]
      have := pcells_get P i hi
      constructor
      · rw [Nat.zero_add]
        simp only [World.cell?, hh]
        rw [key _ (by omega), this.1]
        rfl
      · rw [Nat.zero_add]
        simp only [World.cell?, hh]
        rw [key _ (by omega), this.2]
        rfl

theorem two_cells (w : World) (t : TypeId) (x y : Int) : ∀ j u, [Value.int .i64 x, Value.int .i64 y][j]? = some u → (w.alloc (.cells #[.int .i64 x, .int .i64 y] t)).cell? ((⟨w.heap.size, 0, Option.none⟩ : Addr).add j) = some u := by
  intro j u h
  rw [Addr.add_lit, Nat.zero_add, cell_of_row _ w.heap.size j _ t (0, 0) (heap_alloc_new w _)]
  simpa using h

/-- '==' of two arrays of two numbers. -/
theorem run_equalIn_array2 {P : Program} (w : World) (d : Nat) (t e : TypeId) (i : TypeInfo) (k : IntKind) (a b x y : Int) (ht : P.underlying t = some (.array 2 e)) (he : P.underlying e = some (.int k)) (hi : P.info? e = some i) (hs : i.size = 1) :
    (Op.equalIn (d + 2) t (.agg #[.int k a, .int k b]) (.agg #[.int k x, .int k y])).run P w = .ok (a == x && b == y) w := by
  have q0 := run_equalIn_int (P := P) w d e k k a x he
  have q1 := run_equalIn_int (P := P) w d e k k b y he
  unfold Op.equalIn
  simp only [Sem.run_bind, run_underlying ht, Result.andThen_ok]
  simp [sizeOf, typeInfo, hi, hs]
  rw [show List.range' 0 2 = [0, 1] from rfl]
  simp only [List.forIn_cons, List.forIn_nil]
  cases hax : (a == x) <;> cases hby : (b == y) <;> simp [isAgg, run_underlying he, part, q0, q1, hax, hby]

/-- 'append(out, p)' of one pair. -/
theorem wpList_append_pair {P : Program} {w0 : World} {ops : Array Oper} {rest : List Oper} {o : Oper} {A : Act} {Q : Exit → Act → World → Prop} {base : Nat} {e : TypeId} {v : Value} {n : Nat} {L : List (Int × Int)} (hown : w0.ownsRow base e 2 v n (pcells L)) (hbase : base ≤ w0.heap.size)
    (hgd : o.guard = Option.none) (s x : Operand) (t : TypeId)
    (ho : o.op = .call { callee := .builtin .append, args := #[s, x], argTypes := #[t, t] })
    (i : TypeInfo) (ht : P.underlying t = some (.slice e)) (hi : P.info? e = some i) (hz : i.zero = some (.agg #[.int .i64 0, .int .i64 0])) (hsize : i.size = 2) (hby : i.bytes = 16)
    (p q : Int) (c : Nat) (hs : A.eval s = v) (hx : A.eval x = .slice (some ⟨w0.heap.size, 0, Option.none⟩) 1 c)
    (h63 : n + 1 ≤ maxLen) (hb : (n + 1) * 16 ≤ 140737488355328)
    (h : ∀ v' w', w'.ownsRow base e 2 v' (n + 1) (pcells (L ++ [(p, q)])) → Below base w0 w' → wpList P ops Q rest (A.put o.dst v') w') :
    wpList P ops Q (o :: rest) A (w0.alloc (.cells #[.int .i64 p, .int .i64 q] e)) := by
  refine wpList_append_own _ hgd s x t ho base e i (.agg #[.int .i64 0, .int .i64 0]) 2 16 ht hi hz hsize hby rfl (by decide) v n (pcells L) hs (hown.alloc _) ⟨w0.heap.size, 0, Option.none⟩ 1 c [.int .i64 p, .int .i64 q] hx (by simp) (two_cells w0 e p q) (by intro u hu; simp at hu; rcases hu with rfl | rfl <;> rfl) h63 hb (Nat.le_trans hbase (by simp)) ?_
  intro v' w' hown' hgrow _
  refine h v' w' (by rw [pcells_append]; exact hown') (((Below.refl base w0).alloc hbase _).grown hgrow (Nat.le_trans hbase (by simp)) (fun k hk => (World.ownsRow.lt hown k hk).1))
end Go.Proofs.Ytogbkhlbmchjlaa
