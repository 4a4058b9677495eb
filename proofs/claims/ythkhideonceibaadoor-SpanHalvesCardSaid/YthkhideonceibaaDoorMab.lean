/- Lists of numbers in memory: the document's functions that compare them, or ask whether they rise. Laws for the walk: 'append([]T{}, xs...)' of integers that can be read, and 'append(out, v, ..)' of values behind a row of the call's own. Loops that write a slice over; what lies apart from it. Contracts of slices.Clone and slices.Equal. Contracts of package occ and of the document's answer: Same; the document's Has. One bit of a word turned: plain. Contracts of package occ: With. Contracts of package occ: With. Contracts of the document's answer: Put, With. Lists of the bits of words: plain. Contracts of the document's answer: Places. Contracts of the document's answer: Count, Nth, Next, Last. -/
import Derived.Test.YthkhideonceibaaDoorMaa
import Derived.Laws.AppendOwnNone
import Derived.Deep.Onto
import Derived.OwnWalk
import Derived.Laws.OwnMore
import Derived.Test.YthkhideonceibaaDoorShelf
import Derived.Laws.Bits64b
import Derived.BigRegion
import Derived.Lib.TrailingZeros
set_option linter.unusedSimpArgs false
set_option linter.unusedVariables false
namespace Go.Proofs.YthkhideonceibaaDoor
open Go.RowKit

theorem mixed' : Tryd.prog.follows .mixedOrders = true := by kernel_rfl
/-- A region that draws its order and only reads; the world under a name. -/
theorem still_lit {P : Program} {id : Nat} {Q : Exit → Act → World → Prop} {a : Act} {w : World} {l : List Oper} (hm : P.follows .mixedOrders = true) (hB : Region.lexB .any l.toArray = true)
    (h : wpStill P l.toArray w.drew (fun a' => Q .normal a' w.drew) l a) : (Code.region id l.toArray true).wp P Q a w := wp_region_still_lit hm hB h
theorem take_snoc (zs : List Int) (k : Nat) (h : k < zs.length) : zs.take (k + 1) = zs.take k ++ [zs.getD k 0] := by
  rw [List.take_succ_eq_append_getElem h]; simp [List.getD_eq_getElem?_getD, h]
theorem Rd.at {k : IntKind} {w w1 : World} {a : Option Addr} {zs : List Int} {n i : Nat} (h : Rd k w a zs) (hb : Below n w w1) (hn : w.heap.size ≤ n) (hi : i < zs.length) : ∃ b off, a = some ⟨b, off, Option.none⟩ ∧ w1.cell? ⟨b, off + i, Option.none⟩ = some (.int k (zs.getD i 0)) := by
  rcases h with h | ⟨b, off, ha, hlt, hc⟩
  · subst h; simp at hi
  · exact ⟨b, off, ha, (hb.cell (p := ⟨b, off + i, Option.none⟩) (Nat.lt_of_lt_of_le hlt hn)).trans (hc i hi)⟩

set_option maxRecDepth 100000 in
set_option maxHeartbeats 2000000 in
theorem sameInts_any (a b : Option Addr) (ca cb : Nat) (xs ys : List Int) (w : World) (hr : Rd .i64 w a xs) (hs : Rd .i64 w b ys) (hl : xs.length ≤ 9223372036854775807) (hl2 : ys.length ≤ 9223372036854775807) :
    Calls Tryd.prog 37 #[.slice a xs.length ca, .slice b ys.length cb] w fun e w' => e = .returned (.bool (decide (xs = ys))) ∧ Below w.heap.size w w' := by
  by_cases hn : xs.length = ys.length
  · have HN := Lib.hid hn
    have hne : ((xs.length : Int) != (ys.length : Int)) = false := by simp [hn]
    clear hn
    go_enter Tryd.func37, Tryd.ntmps37
    go_wp2
    go_loopw [5] (fun i wr => ∃ k : Nat, k ≤ xs.length ∧ i = .int .i64 k ∧ xs.take k = ys.take k ∧ Below w.heap.size w wr) (fun i _ => xs.length - (intOf i).toNat)
    case atStart => exact ⟨0, Nat.zero_le _, rfl, rfl, Below.refl _ _⟩
    case round =>
      obtain ⟨k, hk, rfl, heq, hbl⟩ := hrel
      have HE := Lib.hid heq
      have HB := Lib.hid hbl
      clear heq
      by_cases hlt : k < xs.length
      · have hlt2 : k < ys.length := by have := HN.out; omega
        obtain ⟨b1, o1, rfl, c1⟩ := Rd.at hr hbl (Nat.le_refl _) hlt
        obtain ⟨b2, o2, rfl, c2⟩ := Rd.at hs hbl (Nat.le_refl _) hlt2
        have HX := Lib.hid (take_snoc xs k hlt)
        have HY := Lib.hid (take_snoc ys k hlt2)
        have HD : Hid (xs = ys → xs.getD k 0 = ys.getD k 0) := Lib.hid (fun h => by rw [h])
        clear hbl hr hs
        generalize xs.getD k 0 = x at *
        generalize ys.getD k 0 = y at *
        by_cases hxy : x = y
        · have hb : (x != y) = false := by simp [hxy]
          go_wp2
          refine still_lit mixed' (by kernel_rfl) ?_
          repeat still_step
          refine wpStill_nil ?_
          go_wp2
          go_roundw
          case rel => exact ⟨k + 1, by omega, by go_num, by rw [HX.out, HY.out, HE.out, hxy], HB.out.drew⟩
          case measure => simp [intOf]; omega
        · have hb : (x != y) = true := by simp [hxy]
          have HF : Hid (decide (xs = ys) = false) := Lib.hid (by rw [decide_eq_false_iff_not]; exact fun h => hxy (HD.out h))
          clear hxy
          go_wp2
          refine still_lit mixed' (by kernel_rfl) ?_
          repeat still_step
          refine wpStill_nil ?_
          go_wp2
          go_ret
          exact ⟨ret_bool HF.out.symm, HB.out.drew⟩
      · obtain rfl : k = xs.length := by omega
        have HF : Hid (decide (xs = ys) = true) := Lib.hid (by
          rw [decide_eq_true_eq]
          have h := HE.out
          rw [List.take_of_length_le (Nat.le_refl _), List.take_of_length_le (by have := HN.out; omega)] at h
          exact h)
        clear hr hs hbl
        go_wp2
        go_ret
        exact ⟨ret_bool HF.out.symm, HB.out⟩
  · have HF : Hid (decide (xs = ys) = false) := Lib.hid (by rw [decide_eq_false_iff_not]; exact fun h => hn (by rw [h]))
    have hne : ((xs.length : Int) != (ys.length : Int)) = true := by rw [bne_iff_ne]; omega
    clear hr hs hn
    go_enter Tryd.func37, Tryd.ntmps37
    go_wp2
    go_ret
    exact ⟨ret_bool HF.out.symm, Below.refl _ _⟩

set_option maxRecDepth 100000 in
set_option maxHeartbeats 2000000 in
theorem sameWords_any (a b : Option Addr) (ca cb : Nat) (xs ys : List Int) (w : World) (hr : Rd .u64 w a xs) (hs : Rd .u64 w b ys) (hl : xs.length ≤ 9223372036854775807) (hl2 : ys.length ≤ 9223372036854775807) :
    Calls Tryd.prog 35 #[.slice a xs.length ca, .slice b ys.length cb] w fun e w' => e = .returned (.bool (decide (xs = ys))) ∧ Below w.heap.size w w' := by
  by_cases hn : xs.length = ys.length
  · have HN := Lib.hid hn
    have hne : ((xs.length : Int) != (ys.length : Int)) = false := by simp [hn]
    clear hn
    go_enter Tryd.func35, Tryd.ntmps35
    go_wp2
    go_loopw [5] (fun i wr => ∃ k : Nat, k ≤ xs.length ∧ i = .int .i64 k ∧ xs.take k = ys.take k ∧ Below w.heap.size w wr) (fun i _ => xs.length - (intOf i).toNat)
    case atStart => exact ⟨0, Nat.zero_le _, rfl, rfl, Below.refl _ _⟩
    case round =>
      obtain ⟨k, hk, rfl, heq, hbl⟩ := hrel
      have HE := Lib.hid heq
      have HB := Lib.hid hbl
      clear heq
      by_cases hlt : k < xs.length
      · have hlt2 : k < ys.length := by have := HN.out; omega
        obtain ⟨b1, o1, rfl, c1⟩ := Rd.at hr hbl (Nat.le_refl _) hlt
        obtain ⟨b2, o2, rfl, c2⟩ := Rd.at hs hbl (Nat.le_refl _) hlt2
        have HX := Lib.hid (take_snoc xs k hlt)
        have HY := Lib.hid (take_snoc ys k hlt2)
        have HD : Hid (xs = ys → xs.getD k 0 = ys.getD k 0) := Lib.hid (fun h => by rw [h])
        clear hbl hr hs
        generalize xs.getD k 0 = x at *
        generalize ys.getD k 0 = y at *
        by_cases hxy : x = y
        · have hb : (x != y) = false := by simp [hxy]
          go_wp2
          refine still_lit mixed' (by kernel_rfl) ?_
          repeat still_step
          refine wpStill_nil ?_
          go_wp2
          go_roundw
          case rel => exact ⟨k + 1, by omega, by go_num, by rw [HX.out, HY.out, HE.out, hxy], HB.out.drew⟩
          case measure => simp [intOf]; omega
        · have hb : (x != y) = true := by simp [hxy]
          have HF : Hid (decide (xs = ys) = false) := Lib.hid (by rw [decide_eq_false_iff_not]; exact fun h => hxy (HD.out h))
          clear hxy
          go_wp2
          refine still_lit mixed' (by kernel_rfl) ?_
          repeat still_step
          refine wpStill_nil ?_
          go_wp2
          go_ret
          exact ⟨ret_bool HF.out.symm, HB.out.drew⟩
      · obtain rfl : k = xs.length := by omega
        have HF : Hid (decide (xs = ys) = true) := Lib.hid (by
          rw [decide_eq_true_eq]
          have h := HE.out
          rw [List.take_of_length_le (Nat.le_refl _), List.take_of_length_le (by have := HN.out; omega)] at h
          exact h)
        clear hr hs hbl
        go_wp2
        go_ret
        exact ⟨ret_bool HF.out.symm, HB.out⟩
  · have HF : Hid (decide (xs = ys) = false) := Lib.hid (by rw [decide_eq_false_iff_not]; exact fun h => hn (by rw [h]))
    have hne : ((xs.length : Int) != (ys.length : Int)) = true := by rw [bne_iff_ne]; omega
    clear hr hs hn
    go_enter Tryd.func35, Tryd.ntmps35
    go_wp2
    go_ret
    exact ⟨ret_bool HF.out.symm, Below.refl _ _⟩

set_option maxRecDepth 100000 in
set_option maxHeartbeats 2000000 in
theorem sameKeys_any (a b : Option Addr) (ca cb : Nat) (xs ys : List Int) (w : World) (hr : Rd .i64 w a xs) (hs : Rd .i64 w b ys) (hl : xs.length ≤ 9223372036854775807) (hl2 : ys.length ≤ 9223372036854775807) :
    Calls Tryd.prog 36 #[.slice a xs.length ca, .slice b ys.length cb] w fun e w' => e = .returned (.bool (decide (xs = ys))) ∧ Below w.heap.size w w' := by
  by_cases hn : xs.length = ys.length
  · have HN := Lib.hid hn
    have hne : ((xs.length : Int) != (ys.length : Int)) = false := by simp [hn]
    clear hn
    go_enter Tryd.func36, Tryd.ntmps36
    go_wp2
    go_loopw [5] (fun i wr => ∃ k : Nat, k ≤ xs.length ∧ i = .int .i64 k ∧ xs.take k = ys.take k ∧ Below w.heap.size w wr) (fun i _ => xs.length - (intOf i).toNat)
    case atStart => exact ⟨0, Nat.zero_le _, rfl, rfl, Below.refl _ _⟩
    case round =>
      obtain ⟨k, hk, rfl, heq, hbl⟩ := hrel
      have HE := Lib.hid heq
      have HB := Lib.hid hbl
      clear heq
      by_cases hlt : k < xs.length
      · have hlt2 : k < ys.length := by have := HN.out; omega
        obtain ⟨b1, o1, rfl, c1⟩ := Rd.at hr hbl (Nat.le_refl _) hlt
        obtain ⟨b2, o2, rfl, c2⟩ := Rd.at hs hbl (Nat.le_refl _) hlt2
        have HX := Lib.hid (take_snoc xs k hlt)
        have HY := Lib.hid (take_snoc ys k hlt2)
        have HD : Hid (xs = ys → xs.getD k 0 = ys.getD k 0) := Lib.hid (fun h => by rw [h])
        clear hbl hr hs
        generalize xs.getD k 0 = x at *
        generalize ys.getD k 0 = y at *
        by_cases hxy : x = y
        · have hb : (x != y) = false := by simp [hxy]
          go_wp2
          refine still_lit mixed' (by kernel_rfl) ?_
          repeat still_step
          refine wpStill_nil ?_
          go_wp2
          go_roundw
          case rel => exact ⟨k + 1, by omega, by go_num, by rw [HX.out, HY.out, HE.out, hxy], HB.out.drew⟩
          case measure => simp [intOf]; omega
        · have hb : (x != y) = true := by simp [hxy]
          have HF : Hid (decide (xs = ys) = false) := Lib.hid (by rw [decide_eq_false_iff_not]; exact fun h => hxy (HD.out h))
          clear hxy
          go_wp2
          refine still_lit mixed' (by kernel_rfl) ?_
          repeat still_step
          refine wpStill_nil ?_
          go_wp2
          go_ret
          exact ⟨ret_bool HF.out.symm, HB.out.drew⟩
      · obtain rfl : k = xs.length := by omega
        have HF : Hid (decide (xs = ys) = true) := Lib.hid (by
          rw [decide_eq_true_eq]
          have h := HE.out
          rw [List.take_of_length_le (Nat.le_refl _), List.take_of_length_le (by have := HN.out; omega)] at h
          exact h)
        clear hr hs hbl
        go_wp2
        go_ret
        exact ⟨ret_bool HF.out.symm, HB.out⟩
  · have HF : Hid (decide (xs = ys) = false) := Lib.hid (by rw [decide_eq_false_iff_not]; exact fun h => hn (by rw [h]))
    have hne : ((xs.length : Int) != (ys.length : Int)) = true := by rw [bne_iff_ne]; omega
    clear hr hs hn
    go_enter Tryd.func36, Tryd.ntmps36
    go_wp2
    go_ret
    exact ⟨ret_bool HF.out.symm, Below.refl _ _⟩

/-- Do numbers rise? -/
def risesB (zs : List Int) : Bool := (List.range (zs.length - 1)).all (fun i => decide (zs.getD i 0 < zs.getD (i + 1) 0))
theorem risesB_iff {zs : List Int} : risesB zs = true ↔ ∀ i, i + 1 < zs.length → zs.getD i 0 < zs.getD (i + 1) 0 := by
  unfold risesB
  rw [List.all_eq_true]
  constructor
  · intro h i hi
    have := h i (List.mem_range.2 (by omega))
    simpa using this
  · intro h i hi
    have := h i (by have := List.mem_range.1 hi; omega)
    simpa using this

end Go.Proofs.YthkhideonceibaaDoor

namespace Go.Proofs.YthkhideonceibaaDoor
open Go.RowKit

theorem rd_src {k : IntKind} {w : World} {b off : Nat} {zs : List Int} (hc : ∀ i, i < zs.length → w.cell? ⟨b, off + i, Option.none⟩ = some (.int k (zs.getD i 0))) : ∀ j u, (zs.map (Value.int k))[j]? = some u → w.cell? ((⟨b, off, Option.none⟩ : Addr).add j) = some u := by
  intro j u hj
  have hjn : j < zs.length := by
    have := (List.getElem?_eq_some_iff.1 hj).1
    simpa using this
  rw [Addr.add_lit, hc j hjn]
  have e : (zs.map (Value.int k))[j]? = some (Value.int k (zs.getD j 0)) := by simp [List.getD, List.getElem?_eq_getElem hjn]
  rw [e] at hj
  exact hj
theorem ints_one {k : IntKind} {zs : List Int} : ∀ u ∈ zs.map (Value.int k), u.oneCell' = true := by intro u hu; obtain ⟨x, _, rfl⟩ := List.mem_map.1 hu; rfl
theorem new_cells (w : World) (t : TypeId) (news : Array Value) : ∀ j u, news.toList[j]? = some u → (w.alloc (.cells news t)).cell? ((⟨w.heap.size, 0, Option.none⟩ : Addr).add j) = some u := by
  intro j u h
  rw [Addr.add_lit, Nat.zero_add, cell_of_row (w.alloc (.cells news t)) w.heap.size j news t (0, 0) (heap_alloc_new w _)]
  simpa using h

variable {P : Program} {w0 : World} {ops : Array Oper} {rest : List Oper} {o : Oper} {A : Act} {Q : Exit → Act → World → Prop} {k : IntKind}

/-- A copy of integers that can be read. -/
theorem wpList_append_copy (hgd : o.guard = none) (s x : Operand) (t e : TypeId)
    (ho : o.op = .call { callee := .builtin .append, args := #[s, x], argTypes := #[t, t] })
    (i : TypeInfo) (bytes : Nat) (ht : P.underlying t = some (.slice e)) (hi : P.info? e = some i) (hz : i.zero = some (.int k 0)) (hsize : i.size = 1) (hby : i.bytes = bytes)
    (ad : Option Addr) (cap : Nat) (zs : List Int) (hs : A.eval s = .slice (some ⟨w0.heap.size, 0, Option.none⟩) 0 0) (hx : A.eval x = .slice ad zs.length cap)
    (hr : Rd k w0 ad zs) (hn : ad = Option.none → cap = 0) (h63 : zs.length ≤ maxLen) (hb : zs.length * bytes ≤ 140737488355328)
    (h : ∀ v' w', w'.ownsRow w0.heap.size e 1 v' zs.length (zs.map (Value.int k)) → Below w0.heap.size w0 w' → wpList P ops Q rest (A.put o.dst v') w') :
    wpList P ops Q (o :: rest) A (w0.alloc (.cells #[] e)) := by
  have hmade : (w0.alloc (.cells #[] e)).ownsRow w0.heap.size e 1 (.slice (some ⟨w0.heap.size, 0, Option.none⟩) 0 0) 0 [] := World.ownsRow_made w0 #[] 0 (Nat.le_refl _) (Nat.zero_le _) rfl
  have hbl : Below w0.heap.size w0 (w0.alloc (.cells #[] e)) := (Below.refl _ w0).alloc (Nat.le_refl _) _
  cases ad with
  | none =>
    obtain rfl := hn rfl
    have hz0 : zs = [] := by
      rcases hr with h | ⟨b, off, h, _⟩
      · exact h
      · cases h
    subst hz0
    refine wpList_append_own_none hgd s x t ho w0.heap.size e i 1 ht hi _ 0 [] hs hmade hx ?_
    exact h _ _ hmade hbl
  | some a =>
    have hcells : ∀ j u, (zs.map (Value.int k))[j]? = some u → (w0.alloc (.cells #[] e)).cell? (a.add j) = some u := by
      intro j u hj
      rcases hr with h | ⟨b, off, h, hlt, hc⟩
      · subst h; simp at hj
      · cases h
        refine rd_src (fun i hi => ?_) j u hj
        exact hbl.cell (p := ⟨b, off + i, Option.none⟩) hlt ▸ hc i hi
    refine wpList_append_own _ hgd s x t ho w0.heap.size e i (.int k 0) 1 bytes ht hi hz hsize hby rfl (by decide) _ 0 [] hs hmade a zs.length cap (zs.map (Value.int k)) hx (by simp) hcells ints_one (by simpa using h63) (by simpa using hb) (by simp) ?_
    intro v' w' hown hgrow _
    refine h v' w' (by simpa using hown) ?_
    exact hbl.grown hgrow (by simp) (by intro k hk; simp [Value.ownBlock] at hk; omega)

/-- Values behind a row of the call's own. -/
theorem wpList_append_news {base : Nat} {e : TypeId} {v : Value} {n : Nat} {xs : List Value} (hown : w0.ownsRow base e 1 v n xs) (hbase : base ≤ w0.heap.size)
    (hgd : o.guard = none) (s x : Operand) (t : TypeId)
    (ho : o.op = .call { callee := .builtin .append, args := #[s, x], argTypes := #[t, t] })
    (i : TypeInfo) (z : Value) (bytes : Nat) (ht : P.underlying t = some (.slice e)) (hi : P.info? e = some i) (hz : i.zero = some z) (hsize : i.size = 1) (hby : i.bytes = bytes) (hzs : z.cells.size = 1)
    (news : Array Value) (c : Nat) (hs : A.eval s = v) (hx : A.eval x = .slice (some ⟨w0.heap.size, 0, Option.none⟩) news.size c) (h1 : ∀ u ∈ news.toList, u.oneCell' = true)
    (h63 : n + news.size ≤ maxLen) (hb : (n + news.size) * bytes ≤ 140737488355328)
    (h : ∀ v' w', w'.ownsRow base e 1 v' (n + news.size) (xs ++ news.toList) → Below base w0 w' → wpList P ops Q rest (A.put o.dst v') w') :
    wpList P ops Q (o :: rest) A (w0.alloc (.cells news e)) := by
  refine wpList_append_own _ hgd s x t ho base e i z 1 bytes ht hi hz hsize hby hzs (by decide) v n xs hs (hown.alloc _) ⟨w0.heap.size, 0, Option.none⟩ news.size c news.toList hx (by simp) (new_cells w0 e news) h1 h63 hb (Nat.le_trans hbase (by simp)) ?_
  intro v' w' hown' hgrow _
  exact h v' w' hown' (((Below.refl base w0).alloc hbase _).grown hgrow (Nat.le_trans hbase (by simp)) (fun k hk => (World.ownsRow.lt hown k hk).1))

/-- Integers that can be read, behind a row of the call's own. -/
theorem wpList_append_onto {base : Nat} {e : TypeId} {v : Value} {n : Nat} {xs : List Value} (hown : w0.ownsRow base e 1 v n xs) (hbase : base ≤ w0.heap.size)
    (hgd : o.guard = none) (s x : Operand) (t : TypeId)
    (ho : o.op = .call { callee := .builtin .append, args := #[s, x], argTypes := #[t, t] })
    (i : TypeInfo) (bytes : Nat) (ht : P.underlying t = some (.slice e)) (hi : P.info? e = some i) (hz : i.zero = some (.int k 0)) (hsize : i.size = 1) (hby : i.bytes = bytes)
    (ad : Option Addr) (cap : Nat) (zs : List Int) (hs : A.eval s = v) (hx : A.eval x = .slice ad zs.length cap)
    (hr : Rd k w0 ad zs) (hn : ad = Option.none → cap = 0) (h63 : n + zs.length ≤ maxLen) (hb : (n + zs.length) * bytes ≤ 140737488355328)
    (h : ∀ v' w', w'.ownsRow base e 1 v' (n + zs.length) (xs ++ zs.map (Value.int k)) → Below base w0 w' → wpList P ops Q rest (A.put o.dst v') w') :
    wpList P ops Q (o :: rest) A w0 := by
  cases ad with
  | none =>
    obtain rfl := hn rfl
    have hz0 : zs = [] := by
      rcases hr with h | ⟨b, off, h, _⟩
      · exact h
      · cases h
    subst hz0
    refine wpList_append_own_none hgd s x t ho base e i 1 ht hi v n xs hs hown hx ?_
    exact h _ _ (by simpa using hown) (Below.refl _ _)
  | some a =>
    have hcells : ∀ j u, (zs.map (Value.int k))[j]? = some u → w0.cell? (a.add j) = some u := by
      intro j u hj
      rcases hr with h | ⟨b, off, h, hlt, hc⟩
      · subst h; simp at hj
      · cases h
        exact rd_src hc j u hj
    refine wpList_append_own _ hgd s x t ho base e i (.int k 0) 1 bytes ht hi hz hsize hby rfl (by decide) v n xs hs hown a zs.length cap (zs.map (Value.int k)) hx (by simp) hcells ints_one h63 hb hbase ?_
    intro v' w' hown' hgrow _
    exact h v' w' hown' ((Below.refl base w0).grown hgrow hbase (fun k hk => (World.ownsRow.lt hown k hk).1))

/-- What a call has made and owns, as an argument. -/
theorem owns_arg {w : World} {base : Nat} {e : TypeId} {v : Value} {n : Nat} {zs : List Int} (h : w.ownsRow base e 1 v n (zs.map (Value.int k))) :
    ∃ a cap, v = .slice a zs.length cap ∧ n = zs.length ∧ Rd k w a zs ∧ zs.length ≤ cap ∧ (a = Option.none → cap = 0) ∧ cap ≤ maxLen := by
  obtain ⟨a, cap, rfl, hn, hr⟩ := Rd.of_owns h
  refine ⟨a, cap, rfl, hn, hr, ?_⟩
  rcases h.2 with ⟨h1, h2⟩ | ⟨g, c2, cur, h1, _, _, hc, hm, _⟩
  · simp only [Value.slice.injEq] at h1
    obtain ⟨rfl, _, rfl⟩ := h1
    exact ⟨by omega, fun _ => rfl, Nat.zero_le _⟩
  · simp only [Value.slice.injEq] at h1
    obtain ⟨rfl, _, rfl⟩ := h1
    exact ⟨by omega, (by intro hq; cases hq), hm⟩

end Go.Proofs.YthkhideonceibaaDoor

namespace Go.Proofs.YthkhideonceibaaDoor
open Go.RowKit

theorem owns_below {w w' : World} {base : Nat} {e : TypeId} {s : Nat} {v : Value} {n : Nat} {xs : List Value} (h : w.ownsRow base e s v n xs) (hb : Below w.heap.size w w') : w'.ownsRow base e s v n xs :=
  h.kept (row := Option.none) ⟨hb.os, hb.tape, hb.output, hb.size, fun i hi _ => hb.block i hi⟩ (by
    cases hv : v.ownBlock with
    | none => exact .inl rfl
    | some k => exact .inr (by simp))
theorem owns_apart {w w' : World} {b1 b2 : Nat} {e1 e2 : TypeId} {s1 s2 : Nat} {v1 v2 : Value} {n1 n2 : Nat} {xs1 xs2 : List Value} (h1 : w.ownsRow b1 e1 s1 v1 n1 xs1) (h2 : w'.ownsRow b2 e2 s2 v2 n2 xs2) (hb : w.heap.size ≤ b2) : v2.ownBlock = Option.none ∨ v2.ownBlock ≠ v1.ownBlock := by
  cases hv : v2.ownBlock with
  | none => exact .inl rfl
  | some k =>
    refine .inr fun h => ?_
    have a1 := h1.lt k h.symm
    have a2 := h2.lt k hv
    omega

def numsK (k : IntKind) (zs : List Int) : List Value := zs.map (Value.int k)
theorem numsK_length (k : IntKind) (zs : List Int) : (numsK k zs).length = zs.length := by unfold numsK; simp
theorem numsK_get {k : IntKind} {cs : List Int} {i : Nat} (h : i < cs.length) : (numsK k cs)[i]? = some (.int k (cs.getD i 0)) := by simp [numsK, List.getD_eq_getElem?_getD, h]
theorem numsK_set (k : IntKind) (cs : List Int) (i : Nat) (u : Int) : numsK k (cs.set i u) = (numsK k cs).set i (.int k u) := by unfold numsK; rw [List.map_set]
/-- What a loop that writes a slice over leaves. -/
def SpoiltK (k : IntKind) (e : TypeId) (w0 : World) (B : Nat) (a : Option Addr) (n c : Nat) (wr : World) : Prop :=
  ∃ cs : List Int, cs.length = n ∧ wr.ownsRow B e 1 (.slice a n c) n (numsK k cs) ∧ w0.grownBy wr (Value.slice a n c).ownBlock
theorem SpoiltK.start {k : IntKind} {e : TypeId} {w0 : World} {B : Nat} {a : Option Addr} {c : Nat} {cs : List Int} (h : w0.ownsRow B e 1 (.slice a cs.length c) cs.length (numsK k cs)) : SpoiltK k e w0 B a cs.length c w0 :=
  ⟨cs, rfl, h, World.grownBy.refl _ _⟩
end Go.Proofs.YthkhideonceibaaDoor

namespace Go.Proofs.YthkhideonceibaaDoor
open Go.RowKit Go.Shelf

theorem numsK_one (k : IntKind) (zs : List Int) : ∀ u ∈ numsK k zs, u.oneCell' = true := by
  intro u hu
  unfold numsK at hu
  obtain ⟨z, _, rfl⟩ := List.mem_map.1 hu
  rfl
/-- A slice's address that is a row's beginning, or none. -/
def Plain (a : Option Addr) : Prop := a = Option.none ∨ ∃ b off, a = some ⟨b, off, Option.none⟩
theorem Plain.of_rd {k : IntKind} {w : World} {a : Option Addr} {zs : List Int} (h : Rd k w a zs) (hz : zs ≠ []) : Plain a := by
  rcases h with h | ⟨b, off, ha, _⟩
  · exact absurd h hz
  · exact .inr ⟨b, off, ha⟩
theorem Plain.of_owns {w : World} {base : Nat} {e : TypeId} {a : Option Addr} {n m c : Nat} {xs : List Value} (h : w.ownsRow base e 1 (.slice a n c) m xs) : Plain a := by
  rcases h.2 with ⟨h1, _⟩ | ⟨g, cap, cur, h1, _⟩
  · simp only [Value.slice.injEq] at h1; exact .inl h1.1
  · simp only [Value.slice.injEq] at h1; exact .inr ⟨_, _, h1.1⟩
theorem rd_none {k : IntKind} {w : World} {zs : List Int} (h : Rd k w Option.none zs) : zs = [] := by
  rcases h with h | ⟨b, off, ha, _⟩
  · exact h
  · cases ha

theorem infoU : (Tryd.prog.info? 25).map (fun i => (i.zero, i.size, i.bytes)) = some (some (.int .u64 0), 1, 8) := by kernel_rfl
theorem cloneU_some (b off ca : Nat) (zs : List Int) (w : World) (hr : Rd .u64 w (some ⟨b, off, Option.none⟩) zs) (hl : zs.length ≤ 100000) :
    Calls Tryd.prog 79 #[.slice (some ⟨b, off, Option.none⟩) zs.length ca] w fun e w' => ∃ v', e = .returned v' ∧ w'.ownsRow w.heap.size 25 1 v' zs.length (numsK .u64 zs) ∧ Below w.heap.size w w' := by
  obtain ⟨i0, hi, hz0, hz1, hz2⟩ := info_parts infoU
  have hcc : ∀ j u, (numsK .u64 zs)[j]? = some u → w.cell? ⟨b, off + j, Option.none⟩ = some u := by
    intro j u hj
    rcases hr with h | ⟨b', o', ha, _, hc⟩
    · subst h; simp [numsK] at hj
    · cases ha
      have hlt : j < zs.length := by
        rcases Nat.lt_or_ge j zs.length with h | h
        · exact h
        · rw [List.getElem?_eq_none (by rw [numsK_length]; exact h)] at hj; cases hj
      rw [numsK_get hlt] at hj
      rw [hc j hlt]; exact hj
  have H : Calls Tryd.prog 79 #[.slice (some ⟨b, off, Option.none⟩) zs.length ca] w fun e w' => ∃ v', e = .returned v' ∧ w'.ownsRow w.heap.size 25 1 v' zs.length (numsK .u64 zs) ∧ v' ≠ .slice Option.none 0 0 ∧ Below w.heap.size w w' := by
    first
      | exact Tryd.slices_Clone i0 (.int .u64 0) 1 8 hi hz0 hz1 hz2 rfl (by decide) Tryd.sizeOf25 b off zs.length ca (numsK .u64 zs) w (by rw [numsK_length]; omega) (by unfold maxLen; omega) (by omega) hcc (numsK_one _ zs)
      | exact Tryd.slices_Clone_f79 i0 (.int .u64 0) 1 8 hi hz0 hz1 hz2 rfl (by decide) Tryd.sizeOf25 b off zs.length ca (numsK .u64 zs) w (by rw [numsK_length]; omega) (by unfold maxLen; omega) (by omega) hcc (numsK_one _ zs)
  exact H.mono fun e w' ⟨v', h1, h2, _, h4⟩ => ⟨v', h1, h2, h4⟩
theorem cloneU_none (n ca : Nat) (w : World) : Calls Tryd.prog 79 #[.slice Option.none n ca] w fun e w' => e = .returned (.slice Option.none 0 0) ∧ w' = w := by
  first
    | exact Tryd.slices_Clone_nil n ca w
    | exact Tryd.slices_Clone_nil_f79 n ca w
theorem cloneU_any (a : Option Addr) (ca : Nat) (zs : List Int) (w : World) (hr : Rd .u64 w a zs) (hp : Plain a) (hl : zs.length ≤ 100000) :
    Calls Tryd.prog 79 #[.slice a zs.length ca] w fun e w' => ∃ v', e = .returned v' ∧ w'.ownsRow w.heap.size 25 1 v' zs.length (numsK .u64 zs) ∧ Below w.heap.size w w' := by
  rcases hp with rfl | ⟨b, off, rfl⟩
  · have hz := rd_none hr
    subst hz
    refine (cloneU_none _ ca w).mono ?_
    rintro e w' ⟨rfl, rfl⟩
    exact ⟨_, rfl, World.ownsRow_nil _ _ _ _, Below.refl _ _⟩
  · exact cloneU_some b off ca zs w hr hl

theorem infoK : (Tryd.prog.info? 2).map (fun i => (i.zero, i.size, i.bytes)) = some (some (.int .i64 0), 1, 8) := by kernel_rfl
theorem cloneK_some (b off ca : Nat) (zs : List Int) (w : World) (hr : Rd .i64 w (some ⟨b, off, Option.none⟩) zs) (hl : zs.length ≤ 100000) :
    Calls Tryd.prog 80 #[.slice (some ⟨b, off, Option.none⟩) zs.length ca] w fun e w' => ∃ v', e = .returned v' ∧ w'.ownsRow w.heap.size 2 1 v' zs.length (numsK .i64 zs) ∧ Below w.heap.size w w' := by
  obtain ⟨i0, hi, hz0, hz1, hz2⟩ := info_parts infoK
  have hcc : ∀ j u, (numsK .i64 zs)[j]? = some u → w.cell? ⟨b, off + j, Option.none⟩ = some u := by
    intro j u hj
    rcases hr with h | ⟨b', o', ha, _, hc⟩
    · subst h; simp [numsK] at hj
    · cases ha
      have hlt : j < zs.length := by
        rcases Nat.lt_or_ge j zs.length with h | h
        · exact h
        · rw [List.getElem?_eq_none (by rw [numsK_length]; exact h)] at hj; cases hj
      rw [numsK_get hlt] at hj
      rw [hc j hlt]; exact hj
  have H : Calls Tryd.prog 80 #[.slice (some ⟨b, off, Option.none⟩) zs.length ca] w fun e w' => ∃ v', e = .returned v' ∧ w'.ownsRow w.heap.size 2 1 v' zs.length (numsK .i64 zs) ∧ v' ≠ .slice Option.none 0 0 ∧ Below w.heap.size w w' := by
    first
      | exact Tryd.slices_Clone i0 (.int .i64 0) 1 8 hi hz0 hz1 hz2 rfl (by decide) Tryd.sizeOf2 b off zs.length ca (numsK .i64 zs) w (by rw [numsK_length]; omega) (by unfold maxLen; omega) (by omega) hcc (numsK_one _ zs)
      | exact Tryd.slices_Clone_f80 i0 (.int .i64 0) 1 8 hi hz0 hz1 hz2 rfl (by decide) Tryd.sizeOf2 b off zs.length ca (numsK .i64 zs) w (by rw [numsK_length]; omega) (by unfold maxLen; omega) (by omega) hcc (numsK_one _ zs)
  exact H.mono fun e w' ⟨v', h1, h2, _, h4⟩ => ⟨v', h1, h2, h4⟩
theorem cloneK_none (n ca : Nat) (w : World) : Calls Tryd.prog 80 #[.slice Option.none n ca] w fun e w' => e = .returned (.slice Option.none 0 0) ∧ w' = w := by
  first
    | exact Tryd.slices_Clone_nil n ca w
    | exact Tryd.slices_Clone_nil_f80 n ca w
theorem cloneK_any (a : Option Addr) (ca : Nat) (zs : List Int) (w : World) (hr : Rd .i64 w a zs) (hp : Plain a) (hl : zs.length ≤ 100000) :
    Calls Tryd.prog 80 #[.slice a zs.length ca] w fun e w' => ∃ v', e = .returned v' ∧ w'.ownsRow w.heap.size 2 1 v' zs.length (numsK .i64 zs) ∧ Below w.heap.size w w' := by
  rcases hp with rfl | ⟨b, off, rfl⟩
  · have hz := rd_none hr
    subst hz
    refine (cloneK_none _ ca w).mono ?_
    rintro e w' ⟨rfl, rfl⟩
    exact ⟨_, rfl, World.ownsRow_nil _ _ _ _, Below.refl _ _⟩
  · exact cloneK_some b off ca zs w hr hl

theorem infoI : (Tryd.prog.info? 3).map (fun i => (i.zero, i.size, i.bytes)) = some (some (.int .i64 0), 1, 8) := by kernel_rfl
theorem cloneI_some (b off ca : Nat) (zs : List Int) (w : World) (hr : Rd .i64 w (some ⟨b, off, Option.none⟩) zs) (hl : zs.length ≤ 100000) :
    Calls Tryd.prog 81 #[.slice (some ⟨b, off, Option.none⟩) zs.length ca] w fun e w' => ∃ v', e = .returned v' ∧ w'.ownsRow w.heap.size 3 1 v' zs.length (numsK .i64 zs) ∧ Below w.heap.size w w' := by
  obtain ⟨i0, hi, hz0, hz1, hz2⟩ := info_parts infoI
  have hcc : ∀ j u, (numsK .i64 zs)[j]? = some u → w.cell? ⟨b, off + j, Option.none⟩ = some u := by
    intro j u hj
    rcases hr with h | ⟨b', o', ha, _, hc⟩
    · subst h; simp [numsK] at hj
    · cases ha
      have hlt : j < zs.length := by
        rcases Nat.lt_or_ge j zs.length with h | h
        · exact h
        · rw [List.getElem?_eq_none (by rw [numsK_length]; exact h)] at hj; cases hj
      rw [numsK_get hlt] at hj
      rw [hc j hlt]; exact hj
  have H : Calls Tryd.prog 81 #[.slice (some ⟨b, off, Option.none⟩) zs.length ca] w fun e w' => ∃ v', e = .returned v' ∧ w'.ownsRow w.heap.size 3 1 v' zs.length (numsK .i64 zs) ∧ v' ≠ .slice Option.none 0 0 ∧ Below w.heap.size w w' := by
    first
      | exact Tryd.slices_Clone i0 (.int .i64 0) 1 8 hi hz0 hz1 hz2 rfl (by decide) Tryd.sizeOf3 b off zs.length ca (numsK .i64 zs) w (by rw [numsK_length]; omega) (by unfold maxLen; omega) (by omega) hcc (numsK_one _ zs)
      | exact Tryd.slices_Clone_f81 i0 (.int .i64 0) 1 8 hi hz0 hz1 hz2 rfl (by decide) Tryd.sizeOf3 b off zs.length ca (numsK .i64 zs) w (by rw [numsK_length]; omega) (by unfold maxLen; omega) (by omega) hcc (numsK_one _ zs)
  exact H.mono fun e w' ⟨v', h1, h2, _, h4⟩ => ⟨v', h1, h2, h4⟩
theorem cloneI_none (n ca : Nat) (w : World) : Calls Tryd.prog 81 #[.slice Option.none n ca] w fun e w' => e = .returned (.slice Option.none 0 0) ∧ w' = w := by
  first
    | exact Tryd.slices_Clone_nil n ca w
    | exact Tryd.slices_Clone_nil_f81 n ca w
theorem cloneI_any (a : Option Addr) (ca : Nat) (zs : List Int) (w : World) (hr : Rd .i64 w a zs) (hp : Plain a) (hl : zs.length ≤ 100000) :
    Calls Tryd.prog 81 #[.slice a zs.length ca] w fun e w' => ∃ v', e = .returned v' ∧ w'.ownsRow w.heap.size 3 1 v' zs.length (numsK .i64 zs) ∧ Below w.heap.size w w' := by
  rcases hp with rfl | ⟨b, off, rfl⟩
  · have hz := rd_none hr
    subst hz
    refine (cloneI_none _ ca w).mono ?_
    rintro e w' ⟨rfl, rfl⟩
    exact ⟨_, rfl, World.ownsRow_nil _ _ _ _, Below.refl _ _⟩
  · exact cloneI_some b off ca zs w hr hl

end Go.Proofs.YthkhideonceibaaDoor

namespace Go.Proofs.YthkhideonceibaaDoor.Occ
open Go.RowKit Go.Shelf Go.Proofs.YthkhideonceibaaDoor

end Go.Proofs.YthkhideonceibaaDoor.Occ

namespace Go.Proofs.YthkhideonceibaaDoor.Occ
open Go.RowKit Go.Proofs.YthkhideonceibaaDoor

/-- A word with one bit as is told. -/
def turn (x k : Nat) (b : Bool) : Nat := if x.testBit k = b then x else if b = true then x + 2 ^ k else x - 2 ^ k
def clr (x k : Nat) : Nat := x &&& (18446744073709551615 - 2 ^ k)
theorem mask_bit (k i : Nat) (hk : k < 64) : (18446744073709551615 - 2 ^ k).testBit i = (decide (i < 64) && decide (i ≠ k)) := by
  have h2 : 2 ^ k < 2 ^ 64 := Nat.pow_lt_pow_right (by decide) hk
  rw [show 18446744073709551615 - 2 ^ k = 2 ^ 64 - (2 ^ k + 1) by omega, Nat.testBit_two_pow_sub_succ h2, Nat.testBit_two_pow]
  by_cases h : k = i
  · subst h; simp
  · simp [h, Ne.symm h]
theorem clr_bit (x k i : Nat) (hx : x < 2 ^ 64) (hk : k < 64) : (clr x k).testBit i = (x.testBit i && decide (i ≠ k)) := by
  unfold clr
  rw [Nat.testBit_and, mask_bit k i hk]
  by_cases h : i < 64
  · simp [h]
  · rw [Nat.testBit_lt_two_pow (Nat.lt_of_lt_of_le hx (Nat.pow_le_pow_right (by decide) (Nat.not_lt.1 h)))]; simp
theorem or_add (x k : Nat) (hx : x < 2 ^ 64) (hk : k < 64) (h : x.testBit k = false) : x ||| 2 ^ k = x + 2 ^ k := by
  have h2 : 2 ^ k < 2 ^ 64 := Nat.pow_lt_pow_right (by decide) hk
  have ha : BitVec.ofNat 65 x &&& BitVec.ofNat 65 (2 ^ k) = 0#65 := by
    apply BitVec.eq_of_toNat_eq
    rw [BitVec.toNat_and, BitVec.toNat_ofNat, BitVec.toNat_ofNat, Nat.mod_eq_of_lt (by omega), Nat.mod_eq_of_lt (by omega)]
    apply Nat.eq_of_testBit_eq
    intro i
    rw [Nat.testBit_and, Nat.testBit_two_pow]
    by_cases hi : k = i
    · subst hi; simp [h]
    · simp [hi]
  have hb := congrArg BitVec.toNat (BitVec.add_eq_or_of_and_eq_zero _ _ ha)
  rw [BitVec.toNat_add, BitVec.toNat_or, BitVec.toNat_ofNat, BitVec.toNat_ofNat, Nat.mod_eq_of_lt (a := x) (by omega), Nat.mod_eq_of_lt (a := 2 ^ k) (by omega), Nat.mod_eq_of_lt (by omega)] at hb
  exact hb.symm
theorem clr_or (x k : Nat) (hx : x < 2 ^ 64) (hk : k < 64) : clr x k ||| 2 ^ k = x ||| 2 ^ k := by
  apply Nat.eq_of_testBit_eq
  intro i
  rw [Nat.testBit_or, Nat.testBit_or, clr_bit x k i hx hk, Nat.testBit_two_pow]
  by_cases hi : k = i
  · subst hi; simp
  · simp [hi, Ne.symm hi]
theorem clr_lt (x k : Nat) : clr x k ≤ x := Nat.and_le_left
theorem or_same (x k : Nat) (h : x.testBit k = true) : x ||| 2 ^ k = x := by
  apply Nat.eq_of_testBit_eq
  intro i
  rw [Nat.testBit_or, Nat.testBit_two_pow]
  by_cases hi : k = i
  · subst hi; simp [h]
  · simp [hi]
theorem turn_off (x k : Nat) (hx : x < 2 ^ 64) (hk : k < 64) : turn x k false = clr x k := by
  unfold turn
  by_cases h : x.testBit k = true
  · have h1 := or_add (clr x k) k (Nat.lt_of_le_of_lt (clr_lt x k) hx) hk (by rw [clr_bit x k k hx hk]; simp)
    rw [clr_or x k hx hk, or_same x k h] at h1
    simp [h]
    omega
  · rw [Bool.not_eq_true] at h
    rw [if_pos h]
    apply Nat.eq_of_testBit_eq
    intro i
    rw [clr_bit x k i hx hk]
    by_cases hi : i = k
    · subst hi; simp [h]
    · simp [hi]
theorem turn_on (x k : Nat) (hx : x < 2 ^ 64) (hk : k < 64) : turn x k true = clr x k ||| 2 ^ k := by
  unfold turn
  rw [clr_or x k hx hk]
  by_cases h : x.testBit k = true
  · rw [if_pos h, or_same x k h]
  · rw [if_neg h, if_pos rfl, or_add x k hx hk (by simpa using h)]
theorem turn_lt (x k : Nat) (b : Bool) (hx : x < 2 ^ 64) (hk : k < 64) : turn x k b < 2 ^ 64 := by
  cases b
  · rw [turn_off x k hx hk]; exact Nat.lt_of_le_of_lt (clr_lt x k) hx
  · rw [turn_on x k hx hk]; exact Nat.or_lt_two_pow (Nat.lt_of_le_of_lt (clr_lt x k) hx) (Nat.pow_lt_pow_right (by decide) hk)
theorem turn_bit (x k i : Nat) (b : Bool) (hx : x < 2 ^ 64) (hk : k < 64) : (turn x k b).testBit i = if i = k then b else x.testBit i := by
  cases b
  · rw [turn_off x k hx hk, clr_bit x k i hx hk]
    by_cases hi : i = k <;> simp [hi]
  · rw [turn_on x k hx hk, clr_or x k hx hk, Nat.testBit_or, Nat.testBit_two_pow]
    by_cases hi : i = k
    · simp [hi]
    · simp [hi, Ne.symm hi]
/-- Words with one slot as is told. -/
def putV (ws : List Int) (s : Nat) (b : Bool) : List Int := ws.set (s / 64) ((turn (wd ws (s / 64)) (s % 64) b : Nat) : Int)
theorem putV_length (ws : List Int) (s : Nat) (b : Bool) : (putV ws s b).length = ws.length := by unfold putV; rw [List.length_set]
theorem putV_u64 {ws : List Int} (hu : U64 ws) (s : Nat) (b : Bool) : U64 (putV ws s b) := by
  intro x hx
  unfold putV at hx
  rcases List.mem_or_eq_of_mem_set hx with h | h
  · exact hu x h
  · rw [h]
    have := turn_lt (wd ws (s / 64)) (s % 64) b (wd_of hu _) (Nat.mod_lt _ (by decide))
    omega
theorem putV_occ {ws : List Int} (hu : U64 ws) (s : Nat) (b : Bool) (hs : s < 64 * ws.length) (t : Nat) : occB (putV ws s b) t = if t = s then b else occB ws t := by
  unfold occB
  by_cases h : t / 64 = s / 64
  · have e : wd (putV ws s b) (t / 64) = turn (wd ws (s / 64)) (s % 64) b := by
      unfold putV
      rw [h]; unfold wd
      have : s / 64 < ws.length := by omega
      simp [List.getD_eq_getElem?_getD, this]
    rw [e, turn_bit _ _ _ _ (wd_of hu _) (Nat.mod_lt _ (by decide)), h]
    by_cases hm : t % 64 = s % 64
    · rw [if_pos hm, if_pos (by omega)]
    · rw [if_neg hm, if_neg (by intro g; exact hm (by rw [g]))]
  · have e : wd (putV ws s b) (t / 64) = wd ws (t / 64) := by
      unfold putV wd
      simp [List.getD_eq_getElem?_getD, List.getElem?_set, Ne.symm h]
    rw [e, if_neg (by intro g; exact h (by rw [g]))]

end Go.Proofs.YthkhideonceibaaDoor.Occ

namespace Go.Proofs.YthkhideonceibaaDoor.Occ
open Go.RowKit Go.Shelf Go.Proofs.YthkhideonceibaaDoor

def cells (zs : List Int) : List Value := zs.map (Value.int .u64)
def AnsW (V : List Int × Int) (w : World) (e : Ending) (w' : World) : Prop :=
  ∃ v, e = .returned (.tuple #[v, .int .i64 V.2]) ∧ w'.ownsRow w.heap.size 25 1 v V.1.length (cells V.1) ∧ Below w.heap.size w w'
def withV (ws : List Int) (n s : Int) (b : Bool) : List Int × Int := if askV ws n (atB n s) = 0 then (putV ws s.toNat b, 0) else ([], askV ws n (atB n s))
theorem infoW : (Tryd.prog.info? 25).map (fun i => (i.zero, i.size, i.bytes)) = some (some (.int .u64 0), 1, 8) := by kernel_rfl
theorem cells_length (zs : List Int) : (cells zs).length = zs.length := by unfold cells; simp
theorem cells_one (zs : List Int) : ∀ u ∈ cells zs, u.oneCell' = true := by
  intro u hu
  unfold cells at hu
  obtain ⟨z, _, rfl⟩ := List.mem_map.1 hu
  rfl
theorem cells_get (zs : List Int) (i : Nat) (h : i < zs.length) : (cells zs)[i]? = some (.int .u64 (zs.getD i 0)) := by
  unfold cells; simp [List.getD_eq_getElem?_getD, h]
theorem cells_set (zs : List Int) (i : Nat) (x : Int) : cells (zs.set i x) = (cells zs).set i (.int .u64 x) := by unfold cells; rw [List.map_set]
theorem clone_any (b off ca : Nat) (zs : List Int) (w : World) (hr : Rd .u64 w (some ⟨b, off, Option.none⟩) zs) (hl : zs.length ≤ 100000) :
    Calls Tryd.prog 79 #[.slice (some ⟨b, off, Option.none⟩) zs.length ca] w fun e w' => ∃ v', e = .returned v' ∧ w'.ownsRow w.heap.size 25 1 v' zs.length (cells zs) ∧ Below w.heap.size w w' := cloneU_some b off ca zs w hr hl
theorem owns_form {w : World} {base : Nat} {e : TypeId} {v : Value} {n : Nat} {xs : List Value} (h : w.ownsRow base e 1 v n xs) (hn : 0 < n) : ∃ g c, v = .slice (some ⟨g, 0, Option.none⟩) n c ∧ base ≤ g ∧ n ≤ c := by
  rcases h.2 with ⟨_, h0⟩ | ⟨g, cap, cur, hv, hg, _, hc, _⟩
  · have := h.1; rw [h0] at this; simp at this; omega
  · exact ⟨g, cap, hv, hg, hc⟩

end Go.Proofs.YthkhideonceibaaDoor.Occ

namespace Go.Proofs.YthkhideonceibaaDoor.Occ
open Go.RowKit Go.Shelf Go.Proofs.YthkhideonceibaaDoor

theorem bits_andNot_u64_nat (a b : Nat) (ha : a < 18446744073709551616) (hb : b < 18446744073709551616) : bits .andNot .u64 (a : Int) (b : Int) = ((a &&& (18446744073709551615 - b) : Nat) : Int) := by
  have hx : a &&& (18446744073709551615 - b) < 18446744073709551616 := Nat.lt_of_le_of_lt Nat.and_le_left ha
  have e1 : (BitVec.ofInt 64 (a : Int)).toNat = a := by rw [BitVec.ofInt_natCast, BitVec.toNat_ofNat]; exact Nat.mod_eq_of_lt (by omega)
  have e2 : (BitVec.ofInt 64 (b : Int)).toNat = b := by rw [BitVec.ofInt_natCast, BitVec.toNat_ofNat]; exact Nat.mod_eq_of_lt (by omega)
  show IntKind.u64.wrap ((BitVec.ofInt 64 (a : Int) &&& ~~~ BitVec.ofInt 64 (b : Int)).toNat : Int) = _
  rw [BitVec.toNat_and, BitVec.toNat_not, e1, e2, show 2 ^ 64 - 1 - b = 18446744073709551615 - b from rfl, IntKind.wrap_u64]
  omega

end Go.Proofs.YthkhideonceibaaDoor.Occ

namespace Go.Proofs.YthkhideonceibaaDoor.Occ
open Go.RowKit Go.Shelf Go.Proofs.YthkhideonceibaaDoor

theorem putV_same {ws : List Int} (hu : U64 ws) {s : Nat} {b : Bool} (h : occB ws s = b) (hs : s < 64 * ws.length) : putV ws s b = ws := by
  unfold occB at h
  unfold putV turn
  rw [if_pos h, ← wd_int hu]
  apply List.ext_getElem
  · rw [List.length_set]
  · intro i h1 h2
    rw [List.getElem_set]
    by_cases hi : s / 64 = i
    · subst hi; simp [List.getD_eq_getElem?_getD, h2]
    · simp [hi]
theorem putV_other {ws : List Int} {s : Nat} {b : Bool} (h : occB ws s ≠ b) : putV ws s b = ws.set (s / 64) ((if b = true then wd ws (s / 64) + 2 ^ (s % 64) else wd ws (s / 64) - 2 ^ (s % 64) : Nat) : Int) := by
  unfold occB at h
  unfold putV turn
  rw [if_neg h]
theorem bit_le (x k : Nat) (h : x.testBit k = true) : 2 ^ k ≤ x := Nat.ge_two_pow_of_testBit h

end Go.Proofs.YthkhideonceibaaDoor.Occ

namespace Go.Proofs.YthkhideonceibaaDoor.Occ
open Go.RowKit Go.Proofs.YthkhideonceibaaDoor

/-- The slots that are occupied, from f on, k of them looked at. -/
def occs (ws : List Int) (f k : Nat) : List Nat := (List.range' f k).filter (occB ws)
theorem occs_succ (ws : List Int) (f k : Nat) : occs ws f (k + 1) = occs ws f k ++ if occB ws (f + k) = true then [f + k] else [] := by
  unfold occs
  rw [List.range'_concat, List.filter_append, Nat.one_mul]
  congr 1
  by_cases h : occB ws (f + k) = true
  · simp [h]
  · simp [h]
theorem occs_length (ws : List Int) (f k : Nat) : (occs ws f k).length ≤ k := by
  have := List.length_filter_le (occB ws) (List.range' f k)
  rw [List.length_range'] at this
  exact this
theorem occs_add (ws : List Int) (f a b : Nat) : occs ws f (a + b) = occs ws f a ++ occs ws (f + a) b := by
  unfold occs; rw [← List.range'_append_1, List.filter_append]
theorem occs_mem {ws : List Int} {f k s : Nat} : s ∈ occs ws f k ↔ f ≤ s ∧ s < f + k ∧ occB ws s = true := by
  unfold occs; rw [List.mem_filter, List.mem_range'_1, and_assoc]

/-- The slots of a word's bits. -/
def bl (x f : Nat) : List Nat := ((List.range 64).filter (fun i => x.testBit i)).map (fun i => f + i)
theorem pop_count (n x : Nat) : Lib.popAux n x = ((List.range n).filter (fun i => x.testBit i)).length := by
  induction n generalizing x with
  | zero => rfl
  | succ n ih =>
    rw [List.range_succ_eq_map, List.filter_cons, List.filter_map]
    have e : (fun i => x.testBit i) ∘ Nat.succ = fun i => (x / 2).testBit i := by funext i; simp [Nat.testBit_succ]
    rw [e]
    show x % 2 + Lib.popAux n (x / 2) = _
    rw [ih (x / 2)]
    rw [Nat.testBit_zero]
    by_cases h : x % 2 = 1
    · simp [h]; omega
    · simp [h]; omega
theorem bl_length (x f : Nat) : (bl x f).length = Lib.popAux 64 x := by unfold bl; rw [List.length_map, pop_count]
theorem bl_zero (f : Nat) : bl 0 f = [] := by unfold bl; simp

def cutN (x l h : Nat) : Nat := (x / 2 ^ l * 2 ^ l) * 2 ^ h % 18446744073709551616 / 2 ^ h
theorem cutN_bit (x l h i : Nat) : (cutN x l h).testBit i = (decide (l ≤ i) && decide (i + h < 64) && x.testBit i) := by
  unfold cutN
  rw [show 18446744073709551616 = 2 ^ 64 by decide, Nat.testBit_div_two_pow, Nat.testBit_mod_two_pow, Nat.testBit_mul_two_pow, Nat.testBit_mul_two_pow, Nat.testBit_div_two_pow]
  by_cases h1 : l ≤ i
  · rw [show i + h - h = i by omega, show i - l + l = i by omega]
    by_cases h2 : i + h < 64 <;> simp [h1, h2]
  · rw [show i + h - h = i by omega]
    simp [h1]
theorem cutN_lt (x l h : Nat) (hx : x < 18446744073709551616) : cutN x l h < 18446744073709551616 :=
  Nat.lt_of_le_of_lt (Nat.div_le_self _ _) (Nat.mod_lt _ (by decide))

theorem filter_head (p q : Nat → Bool) (c n : Nat) (hc : c < n) (h1 : ∀ i, i < c → p i = false) (h2 : p c = true) (h3 : ∀ i, q i = (p i && decide (i ≠ c))) : (List.range n).filter p = c :: (List.range n).filter q := by
  obtain ⟨d, rfl⟩ : ∃ d, n = c + (d + 1) := ⟨n - c - 1, by omega⟩
  rw [List.range_eq_range', ← List.range'_append_1, List.filter_append, List.filter_append, Nat.zero_add, List.range'_succ]
  have e1 : (List.range' 0 c).filter p = [] := by
    rw [List.filter_eq_nil_iff]; intro i hi; have := List.mem_range'_1.1 hi; rw [h1 i (by omega)]; simp
  have e2 : (List.range' 0 c).filter q = [] := by
    rw [List.filter_eq_nil_iff]; intro i hi; have := List.mem_range'_1.1 hi; rw [h3, h1 i (by omega)]; simp
  rw [e1, e2, List.filter_cons_of_pos h2, List.filter_cons_of_neg (by rw [h3]; simp)]
  simp only [List.nil_append]
  congr 1
  apply List.filter_congr
  intro i hi
  have := List.mem_range'_1.1 hi
  rw [h3, decide_eq_true (by omega), Bool.and_true]
theorem filter_last (p : Nat → Bool) (b n : Nat) (hb : b < n) (h1 : p b = true) (h2 : ∀ i, b < i → p i = false) : (List.range n).filter p = (List.range b).filter p ++ [b] := by
  obtain ⟨d, rfl⟩ : ∃ d, n = b + (d + 1) := ⟨n - b - 1, by omega⟩
  rw [List.range_eq_range', ← List.range'_append_1, List.filter_append, Nat.zero_add, List.range'_succ, List.filter_cons_of_pos h1]
  have e2 : (List.range' (b + 1) d).filter p = [] := by
    rw [List.filter_eq_nil_iff]; intro i hi; have := List.mem_range'_1.1 hi; rw [h2 i (by omega)]; simp
  rw [e2, List.range_eq_range']

/-- The lowest bit first; then the others. -/
theorem low_bits (c m i : Nat) : (2 ^ c * (2 * m + 1)).testBit i = (if i < c then false else (2 * m + 1).testBit (i - c)) ∧ ((2 ^ c * (2 * m + 1)) &&& (2 ^ c * (2 * m + 1) - 1)).testBit i = ((2 ^ c * (2 * m + 1)).testBit i && decide (i ≠ c)) := by
  have hp : 0 < 2 ^ c := Nat.pow_pos (by decide)
  have e0 : (2 ^ c * (2 * m + 1)).testBit i = (if i < c then false else (2 * m + 1).testBit (i - c)) := by
    have := Nat.testBit_two_pow_mul_add (2 * m + 1) hp i
    rw [Nat.add_zero] at this
    rw [this]; simp
  refine ⟨e0, ?_⟩
  rw [Nat.testBit_and]
  have e1 : 2 ^ c * (2 * m + 1) - 1 = 2 ^ c * (2 * m) + (2 ^ c - 1) := by
    rw [Nat.mul_add, Nat.mul_one]; omega
  have e2 : (2 ^ c * (2 * m + 1) - 1).testBit i = (if i < c then (2 ^ c - 1).testBit i else (2 * m).testBit (i - c)) := by
    rw [e1]; exact Nat.testBit_two_pow_mul_add (2 * m) (show 2 ^ c - 1 < 2 ^ c by omega) i
  rw [e0, e2]
  by_cases h : i < c
  · simp [h]
  · simp only [h, if_false]
    rcases Nat.lt_or_ge c i with h1 | h1
    · obtain ⟨j, hj⟩ : ∃ j, i - c = j + 1 := ⟨i - c - 1, by omega⟩
      rw [hj, Nat.testBit_succ, Nat.testBit_succ, show (2 * m + 1) / 2 = m by omega, show 2 * m / 2 = m by omega]
      have : i ≠ c := by omega
      simp [this]
    · have : i = c := by omega
      subst this
      simp
theorem bl_head (x f : Nat) (h0 : x ≠ 0) (hx : x < 18446744073709551616) : bl x f = (f + Lib.ctz 64 x) :: bl (x &&& (x - 1)) f := by
  obtain ⟨m, hm, hk⟩ := Lib.ctzFrom_spec 64 x (by omega) hx
  have e : Lib.ctz 64 x = Lib.ctzFrom 64 x := by simp [Lib.ctz, h0]
  rw [← e] at hm hk
  generalize Lib.ctz 64 x = c at *
  unfold bl
  rw [filter_head (fun i => x.testBit i) (fun i => (x &&& (x - 1)).testBit i) c 64 hk ?_ ?_ ?_]
  · rfl
  · intro i hi
    show x.testBit i = false
    rw [hm, (low_bits c m i).1, if_pos hi]
  · show x.testBit c = true
    rw [hm, (low_bits c m c).1, if_neg (Nat.lt_irrefl _)]
    simp
  · intro i
    show (x &&& (x - 1)).testBit i = (x.testBit i && decide (i ≠ c))
    rw [hm]
    exact (low_bits c m i).2
theorem bitLen_log (f x : Nat) (h0 : x ≠ 0) (hx : x < 2 ^ f) : Lib.bitLenAux f x = x.log2 + 1 := by
  induction f generalizing x with
  | zero => simp at hx; omega
  | succ f ih =>
    show (if x = 0 then 0 else 1 + Lib.bitLenAux f (x / 2)) = _
    rw [if_neg h0]
    by_cases h1 : x = 1
    · subst h1
      rw [show (1 : Nat).log2 = 0 by decide]
      cases f <;> simp [Lib.bitLenAux]
    · rw [ih (x / 2) (by omega) (by rw [Nat.pow_succ] at hx; omega), Nat.log2_def x, if_pos (by omega)]; omega
theorem bl_last (x f : Nat) (h0 : x ≠ 0) (hx : x < 18446744073709551616) : (∃ l, bl x f = l ++ [f + (Lib.bitLen x - 1)]) ∧ 1 ≤ Lib.bitLen x ∧ Lib.bitLen x ≤ 64 := by
  have e : Lib.bitLen x = x.log2 + 1 := bitLen_log 64 x h0 hx
  have h1 : 2 ^ x.log2 ≤ x := Nat.log2_self_le h0
  have h2 : x < 2 ^ (x.log2 + 1) := Nat.lt_log2_self
  have h3 : x.log2 < 64 := (Nat.log2_lt h0).2 hx
  rw [e]
  refine ⟨⟨((List.range x.log2).filter (fun i => x.testBit i)).map (fun i => f + i), ?_⟩, by omega, by omega⟩
  unfold bl
  rw [filter_last (fun i => x.testBit i) x.log2 64 h3 ?_ ?_, List.map_append]
  · rfl
  · show x.testBit x.log2 = true
    rw [testBit_is, decide_eq_true_eq]
    have : x / 2 ^ x.log2 = 1 := by
      apply Nat.div_eq_of_lt_le
      · omega
      · rw [Nat.pow_succ] at h2; omega
    rw [this]
  · intro i hi
    exact Nat.testBit_lt_two_pow (Nat.lt_of_lt_of_le h2 (Nat.pow_le_pow_right (by decide) hi))

/-- The words of slots from one on, ahead of another one, without the bits of others. -/
def pw (ws : List Int) (f t k : Nat) : Nat := cutN (wd ws k) (f - 64 * k) (64 * (k + 1) - t)
def yl (ws : List Int) (f t j : Nat) : Nat × Nat := (64 * (f / 64 + j), pw ws f t (f / 64 + j))
def ny (f t : Nat) : Nat := (t + 63) / 64 - f / 64
def blL (l : List (Nat × Nat)) : List Nat := l.flatMap (fun p => bl p.2 p.1)
theorem blL_snoc (l : List (Nat × Nat)) (p : Nat × Nat) : blL (l ++ [p]) = blL l ++ bl p.2 p.1 := by unfold blL; simp
theorem bl_pw (ws : List Int) (f t k : Nat) (hft : f ≤ t) (hk : 64 * k < t) (hf : f < 64 * (k + 1)) : bl (pw ws f t k) (64 * k) = occs ws (max f (64 * k)) (min t (64 * (k + 1)) - max f (64 * k)) := by
  obtain ⟨l, hl⟩ : ∃ l, l = f - 64 * k := ⟨_, rfl⟩
  obtain ⟨h, hh⟩ : ∃ h, h = 64 * (k + 1) - t := ⟨_, rfl⟩
  obtain ⟨m, hm⟩ : ∃ m, m = 64 - l - h := ⟨_, rfl⟩
  have e1 : max f (64 * k) = 64 * k + l := by omega
  have e2 : min t (64 * (k + 1)) - max f (64 * k) = m := by omega
  rw [e2, e1]
  unfold bl pw
  rw [← hl, ← hh]
  have es : List.range 64 = List.range' 0 l ++ (List.range' l m ++ List.range' (l + m) h) := by
    rw [List.range'_append_1, List.range_eq_range', show (64 : Nat) = l + (m + h) by omega, ← List.range'_append_1, Nat.zero_add]
  rw [es, List.filter_append, List.filter_append]
  have f1 : (List.range' 0 l).filter (fun i => (cutN (wd ws k) l h).testBit i) = [] := by
    rw [List.filter_eq_nil_iff]; intro i hi; have := List.mem_range'_1.1 hi; rw [cutN_bit, decide_eq_false (by omega)]; simp
  have f2 : (List.range' (l + m) h).filter (fun i => (cutN (wd ws k) l h).testBit i) = [] := by
    rw [List.filter_eq_nil_iff]; intro i hi; have := List.mem_range'_1.1 hi; rw [cutN_bit, decide_eq_false (show ¬ i + h < 64 by omega)]; simp
  rw [f1, f2, List.nil_append, List.append_nil]
  unfold occs
  rw [show List.range' (64 * k + l) m = (List.range' l m).map (fun i => 64 * k + i) by rw [List.map_add_range']; , List.filter_map]
  congr 1
  apply List.filter_congr
  intro i hi
  have := List.mem_range'_1.1 hi
  rw [cutN_bit, decide_eq_true (show l ≤ i by omega), decide_eq_true (show i + h < 64 by omega)]
  show _ = occB ws (64 * k + i)
  unfold occB
  rw [show (64 * k + i) / 64 = k by omega, show (64 * k + i) % 64 = i by omega]
  rfl
theorem occs_parts (ws : List Int) (f t : Nat) (hft : f ≤ t) : ∀ j, j ≤ ny f t → blL (upto (yl ws f t) j) = occs ws f (min t (64 * (f / 64 + j)) - f) := by
  intro j
  induction j with
  | zero =>
    intro _
    rw [show min t (64 * (f / 64 + 0)) - f = 0 by omega]; rfl
  | succ j ih =>
    intro hj
    have hj2 : j < ny f t := hj
    unfold ny at hj2
    rw [upto_succ, blL_snoc, ih (by omega)]
    show _ ++ bl (pw ws f t (f / 64 + j)) (64 * (f / 64 + j)) = _
    rw [bl_pw ws f t _ hft (by omega) (by omega)]
    rw [show min t (64 * (f / 64 + (j + 1))) - f = (min t (64 * (f / 64 + j)) - f) + (min t (64 * (f / 64 + j + 1)) - max f (64 * (f / 64 + j))) by omega, occs_add]
    rw [show f + (min t (64 * (f / 64 + j)) - f) = max f (64 * (f / 64 + j)) by omega]
theorem occs_all (ws : List Int) (f t : Nat) (hft : f ≤ t) : blL (upto (yl ws f t) (ny f t)) = occs ws f (t - f) := by
  rw [occs_parts ws f t hft _ (Nat.le_refl _)]
  congr 1
  unfold ny
  omega
theorem occs_pre {ws : List Int} {f t : Nat} (hft : f ≤ t) {pre : List (Nat × Nat)} (h : pre <+: upto (yl ws f t) (ny f t)) : ∃ r, occs ws f (t - f) = blL pre ++ r := by
  obtain ⟨r, hr⟩ := h
  exact ⟨blL r, by rw [← occs_all ws f t hft, ← hr]; unfold blL; rw [List.flatMap_append]⟩
end Go.Proofs.YthkhideonceibaaDoor.Occ

namespace Go.Proofs.YthkhideonceibaaDoor.Occ
open Go.RowKit Go.Shelf Go.Proofs.YthkhideonceibaaDoor

def nats (l : List Nat) : List Value := l.map (fun x : Nat => Value.int .i64 (x : Int))
theorem nats_length (l : List Nat) : (nats l).length = l.length := by unfold nats; simp
theorem infoI : (Tryd.prog.info? 3).map (fun i => (i.zero, i.size, i.bytes)) = some (some (.int .i64 0), 1, 8) := by kernel_rfl

set_option maxRecDepth 100000 in
set_option maxHeartbeats 2000000 in
theorem Places_any (a : Option Addr) (ca : Nat) (ws : List Int) (f t : Nat) (w : World) (hu : U64 ws) (hr : Rd .u64 w a ws) (hl : ws.length ≤ 100000) (hft : f ≤ t) (ht : t ≤ 64 * ws.length) :
    Calls Tryd.prog 71 #[.slice a ws.length ca, .int .i64 f, .int .i64 t] w fun e w' => ∃ v, e = .returned v ∧ w'.ownsRow w.heap.size 3 1 v (occs ws f (t - f)).length (nats (occs ws f (t - f))) ∧ Below w.heap.size w w' := by
  obtain ⟨i0, hi, hz0, hz1, hz2⟩ := info_parts infoI
  have HIS := Lib.hid (fun s w1 hr1 hs => Is_any a ca ws s w1 hu hr1 hl hs)
  have HR := Lib.hid hr
  have HFT := Lib.hid hft
  clear hu hr
  go_enter Tryd.func71, Tryd.ntmps71
  go_wp2
  go_loopw [7, 8] (fun v i wr => ∃ k : Nat, f + k ≤ t ∧ i = .int .i64 ((f : Int) + (k : Int)) ∧ wr.ownsRow w.heap.size 3 1 v (occs ws f k).length (nats (occs ws f k)) ∧ Below w.heap.size w wr) (fun _ i _ => t - (intOf i).toNat)
  case atStart => exact ⟨0, hft, by go_num, (World.ownsRow_nil w w.heap.size 3 1 : w.ownsRow w.heap.size 3 1 (.slice Option.none 0 0) (occs ws f 0).length (nats (occs ws f 0))), Below.refl _ _⟩
  case round =>
    obtain ⟨k, hk, rfl, hown, hbl⟩ := hrel
    have HO := Lib.hid hown
    have HB := Lib.hid hbl
    clear hown hbl
    have HS := Lib.hid (occs_succ ws f k)
    have hol := occs_length ws f k
    generalize hL : occs ws f k = L at *
    have HL := Lib.hid hL
    clear hL
    by_cases hlt : f + k < t
    · have HI := Lib.hid (HIS.out (f + k) _ (HR.out.mono HB.out (Nat.le_refl _)) (by omega))
      rw [Int.natCast_add] at HI
      have hlt2 : (f : Int) + (k : Int) < (t : Int) := by omega
      by_cases ho : occB ws (f + k) = true
      · rw [ho] at HI HS
        go_wp2_with fail
        refine HI.out.mono ?_
        rintro e w' ⟨rfl, rfl⟩
        go_wp2_with (at_builtin; refine wpList_append_news HO.out HB.out.size rfl _ _ 24 rfl i0 (.int .i64 0) 8 Tryd.underlying24 hi hz0 hz1 hz2 rfl _ 1 rfl rfl (by intro u hu; simp at hu; subst hu; rfl) (by unfold maxLen; simp; omega) (by simp; omega) ?_)
        intro v' w1 hown' hb'
        have HO2 := Lib.hid hown'
        have HB2 := Lib.hid (HB.out.trans hb')
        clear hown' hb'
        go_wp2
        go_roundw
        case rel => exact ⟨k + 1, by omega, by go_num, by rw [HS.out, if_pos trivial, List.length_append]; unfold nats; rw [List.map_append]; exact HO2.out, HB2.out⟩
        case measure => simp [intOf]; omega
      · rw [Bool.not_eq_true] at ho
        rw [ho] at HI HS
        go_wp2_with fail
        refine HI.out.mono ?_
        rintro e w' ⟨rfl, rfl⟩
        go_wp2
        go_roundw
        case rel => exact ⟨k + 1, by omega, by go_num, by rw [HS.out, if_neg (by decide), List.append_nil]; exact HO.out, HB.out⟩
        case measure => simp [intOf]; omega
    · have HE : Hid (t - f = k) := Lib.hid (by omega)
      have hge : ¬ (f : Int) + (k : Int) < (t : Int) := by omega
      go_wp2
      go_ret
      exact ⟨_, rfl, by rw [HE.out, HL.out]; exact HO.out, HB.out⟩

end Go.Proofs.YthkhideonceibaaDoor.Occ

namespace Go.Proofs.YthkhideonceibaaDoor.Occ
open Go.RowKit Go.Shelf Go.Proofs.YthkhideonceibaaDoor

def inB (n f t : Int) : Bool := decide (0 ≤ f) && (decide (f ≤ t) && decide (t ≤ n))
theorem inB_iff {n f t : Int} : inB n f t = true ↔ 0 ≤ f ∧ f ≤ t ∧ t ≤ n := by unfold inB; simp only [Bool.and_eq_true, decide_eq_true_eq]
def upB (n s : Int) : Bool := decide (0 ≤ s) && decide (s ≤ n)
theorem upB_iff {n s : Int} : upB n s = true ↔ 0 ≤ s ∧ s ≤ n := by unfold upB; simp only [Bool.and_eq_true, decide_eq_true_eq]
def cntV (ws : List Int) (n f t : Int) : Int × Int := if askV ws n (inB n f t) = 0 then (((occs ws f.toNat (t - f).toNat).length : Int), 0) else (0, askV ws n (inB n f t))
def nthV (ws : List Int) (n k : Int) : Int × Int :=
  if chkV ws n = 0 then (if 0 ≤ k ∧ k < ((occs ws 0 n.toNat).length : Int) then ((((occs ws 0 n.toNat).getD k.toNat 0 : Nat) : Int), 0) else (0, 6)) else (0, chkV ws n)
def firstV (l : List Nat) : Int × Int := if l.length = 0 then (0, 6) else (((l.getD 0 0 : Nat) : Int), 0)
def endV (l : List Nat) : Int × Int := if l.length = 0 then (0, 6) else (((l.getD (l.length - 1) 0 : Nat) : Int), 0)
def nextV (ws : List Int) (n s : Int) : Int × Int := if askV ws n (upB n s) = 0 then firstV (occs ws s.toNat (n - s).toNat) else (0, askV ws n (upB n s))
def lastV (ws : List Int) (n s : Int) : Int × Int := if askV ws n (upB n s) = 0 then endV (occs ws 0 s.toNat) else (0, askV ws n (upB n s))

def zs (l : List Nat) : List Int := l.map (fun x : Nat => (x : Int))
theorem nats_zs (l : List Nat) : nats l = (zs l).map (Value.int .i64) := by unfold nats zs; rw [List.map_map]; rfl
theorem zs_length (l : List Nat) : (zs l).length = l.length := by unfold zs; rw [List.length_map]
theorem zs_getD (l : List Nat) (i : Nat) : (zs l).getD i 0 = ((l.getD i 0 : Nat) : Int) := by
  unfold zs
  simp only [List.getD_eq_getElem?_getD, List.getElem?_map]
  cases l[i]? <;> rfl
/-- The list that was made, as it is read. -/
theorem places_read {w w1 : World} {v : Value} {l : List Nat} (h : w1.ownsRow w.heap.size 3 1 v l.length (nats l)) : ∃ a c, v = .slice a l.length c ∧ Rd .i64 w1 a (zs l) := by
  rw [nats_zs] at h
  obtain ⟨a, c, hv, hn, hr, _⟩ := owns_arg h
  rw [zs_length] at hv
  exact ⟨a, c, hv, hr⟩
/-- Words that may be, and a place that is asked for. -/
theorem ask_bad {ws : List Int} {n : Int} {b : Bool} (hc : chkV ws n = 0) (hb : ¬ b = true) : askV ws n b = 2 := by unfold askV; rw [if_pos hc, if_neg hb]
theorem ask_ok {ws : List Int} {n : Int} {b : Bool} (hc : chkV ws n = 0) (hb : b = true) : askV ws n b = 0 := by unfold askV; rw [if_pos hc, if_pos hb]
theorem ask_chk {ws : List Int} {n : Int} {b : Bool} (hc : ¬ chkV ws n = 0) : askV ws n b = chkV ws n := by unfold askV; rw [if_neg hc]

end Go.Proofs.YthkhideonceibaaDoor.Occ
