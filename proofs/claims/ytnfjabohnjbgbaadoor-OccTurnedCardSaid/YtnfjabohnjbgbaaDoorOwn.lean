/- Laws for the walk: 'append([]T{}, xs...)' of integers that can be read, and 'append(out, v, ..)' of values behind a row of the call's own. -/
import Derived.Test.YtnfjabohnjbgbaaDoorRd
import Derived.Laws.AppendOwnNone
import Derived.Deep.Onto
import Derived.OwnWalk
namespace Go.Proofs.YtnfjabohnjbgbaaDoor
open Go.RowKit

theorem rd_src {k : IntKind} {w : World} {b off : Nat} {zs : List Int} (hc : ∀ i, i < zs.length → w.cell? ⟨b, off + i, Option.none⟩ = some (.int k (zs.getD i 0))) : ∀ j u, (zs.map (Value.int k))[j]? = some u → w.cell? ((⟨b, off, Option.none⟩ : Addr).add j) = some u := by
  intro j u hj
  have hjn : j < zs.length := by
    have := (List.getElem?_eq_some_iff.1 hj).1
    simpa using this
  rw [Addr.add_lit, hc j hjn]
  have e : (zs.map (Value.int k))[j]? = some (Value.int k (zs.getD j 0)) := by simp [List.getD, List.getElem?_eq_getElem hjn]
  rw [e] at hj
  exact hj
theorem ints_one {k : IntKind} {zs : List Int} : ∀ u ∈ zs.map (Value.int k), u.oneCell' = true := by intro u hu; obtain ⟨x, _, rfl⟩ := List.mem_map.1 hu; rfl
theorem new_cells (w : World) (t : TypeId) (news : Array Value) : ∀ j u, news.toList[j]? = some u → (w.alloc (.cells news t)).cell? ((⟨w.heap.size, 0, Option.none⟩ : Addr).add j) = some u := by
  intro j u h
  rw [Addr.add_lit, Nat.zero_add, cell_of_row (w.alloc (.cells news t)) w.heap.size j news t (0, 0) (heap_alloc_new w _)]
  simpa using h

variable {P : Program} {w0 : World} {ops : Array Oper} {rest : List Oper} {o : Oper} {A : Act} {Q : Exit → Act → World → Prop} {k : IntKind}

/-- A copy of integers that can be read. -/
theorem wpList_append_copy (hgd : o.guard = none) (s x : Operand) (t e : TypeId)
    (ho : o.op = .call { callee := .builtin .append, args := #[s, x], argTypes := #[t, t] })
    (i : TypeInfo) (bytes : Nat) (ht : P.underlying t = some (.slice e)) (hi : P.info? e = some i) (hz : i.zero = some (.int k 0)) (hsize : i.size = 1) (hby : i.bytes = bytes)
    (ad : Option Addr) (cap : Nat) (zs : List Int) (hs : A.eval s = .slice (some ⟨w0.heap.size, 0, Option.none⟩) 0 0) (hx : A.eval x = .slice ad zs.length cap)
    (hr : Rd k w0 ad zs) (hn : ad = Option.none → cap = 0) (h63 : zs.length ≤ maxLen) (hb : zs.length * bytes ≤ 140737488355328)
    (h : ∀ v' w', w'.ownsRow w0.heap.size e 1 v' zs.length (zs.map (Value.int k)) → Below w0.heap.size w0 w' → wpList P ops Q rest (A.put o.dst v') w') :
    wpList P ops Q (o :: rest) A (w0.alloc (.cells #[] e)) := by
  have hmade : (w0.alloc (.cells #[] e)).ownsRow w0.heap.size e 1 (.slice (some ⟨w0.heap.size, 0, Option.none⟩) 0 0) 0 [] := World.ownsRow_made w0 #[] 0 (Nat.le_refl _) (Nat.zero_le _) rfl
  have hbl : Below w0.heap.size w0 (w0.alloc (.cells #[] e)) := (Below.refl _ w0).alloc (Nat.le_refl _) _
  cases ad with
  | none =>
    obtain rfl := hn rfl
    have hz0 : zs = [] := by
      rcases hr with h | ⟨b, off, h, _⟩
      · exact h
      · cases h
    subst hz0
    refine wpList_append_own_none hgd s x t ho w0.heap.size e i 1 ht hi _ 0 [] hs hmade hx ?_
    exact h _ _ hmade hbl
  | some a =>
    have hcells : ∀ j u, (zs.map (Value.int k))[j]? = some u → (w0.alloc (.cells #[] e)).cell? (a.add j) = some u := by
      intro j u hj
      rcases hr with h | ⟨b, off, h, hlt, hc⟩
      · subst h; simp at hj
      · cases h
        refine rd_src (fun i hi => ?_) j u hj
        exact hbl.cell (p := ⟨b, off + i, Option.none⟩) hlt ▸ hc i hi
    refine wpList_append_own _ hgd s x t ho w0.heap.size e i (.int k 0) 1 bytes ht hi hz hsize hby rfl (by decide) _ 0 [] hs hmade a zs.length cap (zs.map (Value.int k)) hx (by simp) hcells ints_one (by simpa using h63) (by simpa using hb) (by simp) ?_
    intro v' w' hown hgrow _
    refine h v' w' (by simpa using hown) ?_
    exact hbl.grown hgrow (by simp) (by intro k hk; simp [Value.ownBlock] at hk; omega)

/-- Values behind a row of the call's own. -/
theorem wpList_append_news {base : Nat} {e : TypeId} {v : Value} {n : Nat} {xs : List Value} (hown : w0.ownsRow base e 1 v n xs) (hbase : base ≤ w0.heap.size)
    (hgd : o.guard = none) (s x : Operand) (t : TypeId)
    (ho : o.op = .call { callee := .builtin .append, args := #[s, x], argTypes := #[t, t] })
    (i : TypeInfo) (z : Value) (bytes : Nat) (ht : P.underlying t = some (.slice e)) (hi : P.info? e = some i) (hz : i.zero = some z) (hsize : i.size = 1) (hby : i.bytes = bytes) (hzs : z.cells.size = 1)
    (news : Array Value) (c : Nat) (hs : A.eval s = v) (hx : A.eval x = .slice (some ⟨w0.heap.size, 0, Option.none⟩) news.size c) (h1 : ∀ u ∈ news.toList, u.oneCell' = true)
    (h63 : n + news.size ≤ maxLen) (hb : (n + news.size) * bytes ≤ 140737488355328)
    (h : ∀ v' w', w'.ownsRow base e 1 v' (n + news.size) (xs ++ news.toList) → Below base w0 w' → wpList P ops Q rest (A.put o.dst v') w') :
    wpList P ops Q (o :: rest) A (w0.alloc (.cells news e)) := by
  refine wpList_append_own _ hgd s x t ho base e i z 1 bytes ht hi hz hsize hby hzs (by decide) v n xs hs (hown.alloc _) ⟨w0.heap.size, 0, Option.none⟩ news.size c news.toList hx (by simp) (new_cells w0 e news) h1 h63 hb (Nat.le_trans hbase (by simp)) ?_
  intro v' w' hown' hgrow _
  exact h v' w' hown' (((Below.refl base w0).alloc hbase _).grown hgrow (Nat.le_trans hbase (by simp)) (fun k hk => (World.ownsRow.lt hown k hk).1))

/-- Integers that can be read, behind a row of the call's own. -/
theorem wpList_append_onto {base : Nat} {e : TypeId} {v : Value} {n : Nat} {xs : List Value} (hown : w0.ownsRow base e 1 v n xs) (hbase : base ≤ w0.heap.size)
    (hgd : o.guard = none) (s x : Operand) (t : TypeId)
    (ho : o.op = .call { callee := .builtin .append, args := #[s, x], argTypes := #[t, t] })
    (i : TypeInfo) (bytes : Nat) (ht : P.underlying t = some (.slice e)) (hi : P.info? e = some i) (hz : i.zero = some (.int k 0)) (hsize : i.size = 1) (hby : i.bytes = bytes)
    (ad : Option Addr) (cap : Nat) (zs : List Int) (hs : A.eval s = v) (hx : A.eval x = .slice ad zs.length cap)
    (hr : Rd k w0 ad zs) (hn : ad = Option.none → cap = 0) (h63 : n + zs.length ≤ maxLen) (hb : (n + zs.length) * bytes ≤ 140737488355328)
    (h : ∀ v' w', w'.ownsRow base e 1 v' (n + zs.length) (xs ++ zs.map (Value.int k)) → Below base w0 w' → wpList P ops Q rest (A.put o.dst v') w') :
    wpList P ops Q (o :: rest) A w0 := by
  cases ad with
  | none =>
    obtain rfl := hn rfl
    have hz0 : zs = [] := by
      rcases hr with h | ⟨b, off, h, _⟩
      · exact h
      · cases h
    subst hz0
    refine wpList_append_own_none hgd s x t ho base e i 1 ht hi v n xs hs hown hx ?_
    exact h _ _ (by simpa using hown) (Below.refl _ _)
  | some a =>
    have hcells : ∀ j u, (zs.map (Value.int k))[j]? = some u → w0.cell? (a.add j) = some u := by
      intro j u hj
      rcases hr with h | ⟨b, off, h, hlt, hc⟩
      · subst h; simp at hj
      · cases h
        exact rd_src hc j u hj
    refine wpList_append_own _ hgd s x t ho base e i (.int k 0) 1 bytes ht hi hz hsize hby rfl (by decide) v n xs hs hown a zs.length cap (zs.map (Value.int k)) hx (by simp) hcells ints_one h63 hb hbase ?_
    intro v' w' hown' hgrow _
    exact h v' w' hown' ((Below.refl base w0).grown hgrow hbase (fun k hk => (World.ownsRow.lt hown k hk).1))

/-- What a call has made and owns, as an argument. -/
theorem owns_arg {w : World} {base : Nat} {e : TypeId} {v : Value} {n : Nat} {zs : List Int} (h : w.ownsRow base e 1 v n (zs.map (Value.int k))) :
    ∃ a cap, v = .slice a zs.length cap ∧ n = zs.length ∧ Rd k w a zs ∧ zs.length ≤ cap ∧ (a = Option.none → cap = 0) ∧ cap ≤ maxLen := by
  obtain ⟨a, cap, rfl, hn, hr⟩ := Rd.of_owns h
  refine ⟨a, cap, rfl, hn, hr, ?_⟩
  rcases h.2 with ⟨h1, h2⟩ | ⟨g, c2, cur, h1, _, _, hc, hm, _⟩
  · simp only [Value.slice.injEq] at h1
    obtain ⟨rfl, _, rfl⟩ := h1
    exact ⟨by omega, fun _ => rfl, Nat.zero_le _⟩
  · simp only [Value.slice.injEq] at h1
    obtain ⟨rfl, _, rfl⟩ := h1
    exact ⟨by omega, (by intro hq; cases hq), hm⟩

end Go.Proofs.YtnfjabohnjbgbaaDoor
