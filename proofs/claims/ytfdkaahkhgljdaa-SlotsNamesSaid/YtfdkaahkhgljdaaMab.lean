/- Lists of numbers in memory: the document's functions that compare them, or ask whether they rise. Laws for the walk: 'append([]T{}, xs...)' of integers that can be read, and 'append(out, v, ..)' of values behind a row of the call's own. Loops that write a slice over; what lies apart from it. Contracts of slices.Clone and slices.Equal. Contracts of package occ and of the document's answer: Same; the document's Has. One bit of a word turned: plain. Contracts of package occ: With. Contracts of package occ: With. Contracts of the document's answer: Put, With. -/
import Derived.Test.YtfdkaahkhgljdaaMaa
import Derived.Laws.AppendOwnNone
import Derived.Deep.Onto
import Derived.OwnWalk
import Derived.Laws.OwnMore
import Derived.Test.YtfdkaahkhgljdaaShelf
import Derived.Laws.Bits64b
import Derived.BigRegion
set_option linter.unusedSimpArgs false
set_option linter.unusedVariables false
namespace Go.Proofs.Ytfdkaahkhgljdaa
open Go.RowKit

theorem mixed' : Try.prog.follows .mixedOrders = true := by kernel_rfl
/-- A region that draws its order and only reads; the world under a name. -/
theorem still_lit {P : Program} {id : Nat} {Q : Exit → Act → World → Prop} {a : Act} {w : World} {l : List Oper} (hm : P.follows .mixedOrders = true) (hB : Region.lexB .any l.toArray = true)
    (h : wpStill P l.toArray w.drew (fun a' => Q .normal a' w.drew) l a) : (Code.region id l.toArray true).wp P Q a w := wp_region_still_lit hm hB h
theorem take_snoc (zs : List Int) (k : Nat) (h : k < zs.length) : zs.take (k + 1) = zs.take k ++ [zs.getD k 0] := by
  rw [List.take_succ_eq_append_getElem h]; simp [List.getD_eq_getElem?_getD, h]
theorem Rd.at {k : IntKind} {w w1 : World} {a : Option Addr} {zs : List Int} {n i : Nat} (h : Rd k w a zs) (hb : Below n w w1) (hn : w.heap.size ≤ n) (hi : i < zs.length) : ∃ b off, a = some ⟨b, off, Option.none⟩ ∧ w1.cell? ⟨b, off + i, Option.none⟩ = some (.int k (zs.getD i 0)) := by
  rcases h with h | ⟨b, off, ha, hlt, hc⟩
  · subst h; simp at hi
  · exact ⟨b, off, ha, (hb.cell (p := ⟨b, off + i, Option.none⟩) (Nat.lt_of_lt_of_le hlt hn)).trans (hc i hi)⟩

set_option maxRecDepth 100000 in
set_option maxHeartbeats 2000000 in
theorem sameInts_any (a b : Option Addr) (ca cb : Nat) (xs ys : List Int) (w : World) (hr : Rd .i64 w a xs) (hs : Rd .i64 w b ys) (hl : xs.length ≤ 9223372036854775807) (hl2 : ys.length ≤ 9223372036854775807) :
    Calls Try.prog 16 #[.slice a xs.length ca, .slice b ys.length cb] w fun e w' => e = .returned (.bool (decide (xs = ys))) ∧ Below w.heap.size w w' := by
  by_cases hn : xs.length = ys.length
  · have HN := Lib.hid hn
    have hne : ((xs.length : Int) != (ys.length : Int)) = false := by simp [hn]
    clear hn
    go_enter Try.func16, Try.ntmps16
    go_wp2
    go_loopw [5] (fun i wr => ∃ k : Nat, k ≤ xs.length ∧ i = .int .i64 k ∧ xs.take k = ys.take k ∧ Below w.heap.size w wr) (fun i _ => xs.length - (intOf i).toNat)
    case atStart => exact ⟨0, Nat.zero_le _, rfl, rfl, Below.refl _ _⟩
    case round =>
      obtain ⟨k, hk, rfl, heq, hbl⟩ := hrel
      have HE := Lib.hid heq
      have HB := Lib.hid hbl
      clear heq
      by_cases hlt : k < xs.length
      · have hlt2 : k < ys.length := by have := HN.out; omega
        obtain ⟨b1, o1, rfl, c1⟩ := Rd.at hr hbl (Nat.le_refl _) hlt
        obtain ⟨b2, o2, rfl, c2⟩ := Rd.at hs hbl (Nat.le_refl _) hlt2
        have HX := Lib.hid (take_snoc xs k hlt)
        have HY := Lib.hid (take_snoc ys k hlt2)
        have HD : Hid (xs = ys → xs.getD k 0 = ys.getD k 0) := Lib.hid (fun h => by rw [h])
        clear hbl hr hs
        generalize xs.getD k 0 = x at *
        generalize ys.getD k 0 = y at *
        by_cases hxy : x = y
        · have hb : (x != y) = false := by simp [hxy]
          go_wp2
          refine still_lit mixed' (by kernel_rfl) ?_
          repeat still_step
          refine wpStill_nil ?_
          go_wp2
          go_roundw
          case rel => exact ⟨k + 1, by omega, by go_num, by rw [HX.out, HY.out, HE.out, hxy], HB.out.drew⟩
          case measure => simp [intOf]; omega
        · have hb : (x != y) = true := by simp [hxy]
          have HF : Hid (decide (xs = ys) = false) := Lib.hid (by rw [decide_eq_false_iff_not]; exact fun h => hxy (HD.out h))
          clear hxy
          go_wp2
          refine still_lit mixed' (by kernel_rfl) ?_
          repeat still_step
          refine wpStill_nil ?_
          go_wp2
          go_ret
          exact ⟨ret_bool HF.out.symm, HB.out.drew⟩
      · obtain rfl : k = xs.length := by omega
        have HF : Hid (decide (xs = ys) = true) := Lib.hid (by
          rw [decide_eq_true_eq]
          have h := HE.out
          rw [List.take_of_length_le (Nat.le_refl _), List.take_of_length_le (by have := HN.out; omega)] at h
          exact h)
        clear hr hs hbl
        go_wp2
        go_ret
        exact ⟨ret_bool HF.out.symm, HB.out⟩
  · have HF : Hid (decide (xs = ys) = false) := Lib.hid (by rw [decide_eq_false_iff_not]; exact fun h => hn (by rw [h]))
    have hne : ((xs.length : Int) != (ys.length : Int)) = true := by rw [bne_iff_ne]; omega
    clear hr hs hn
    go_enter Try.func16, Try.ntmps16
    go_wp2
    go_ret
    exact ⟨ret_bool HF.out.symm, Below.refl _ _⟩

set_option maxRecDepth 100000 in
set_option maxHeartbeats 2000000 in
theorem sameWords_any (a b : Option Addr) (ca cb : Nat) (xs ys : List Int) (w : World) (hr : Rd .u64 w a xs) (hs : Rd .u64 w b ys) (hl : xs.length ≤ 9223372036854775807) (hl2 : ys.length ≤ 9223372036854775807) :
    Calls Try.prog 43 #[.slice a xs.length ca, .slice b ys.length cb] w fun e w' => e = .returned (.bool (decide (xs = ys))) ∧ Below w.heap.size w w' := by
  by_cases hn : xs.length = ys.length
  · have HN := Lib.hid hn
    have hne : ((xs.length : Int) != (ys.length : Int)) = false := by simp [hn]
    clear hn
    go_enter Try.func43, Try.ntmps43
    go_wp2
    go_loopw [5] (fun i wr => ∃ k : Nat, k ≤ xs.length ∧ i = .int .i64 k ∧ xs.take k = ys.take k ∧ Below w.heap.size w wr) (fun i _ => xs.length - (intOf i).toNat)
    case atStart => exact ⟨0, Nat.zero_le _, rfl, rfl, Below.refl _ _⟩
    case round =>
      obtain ⟨k, hk, rfl, heq, hbl⟩ := hrel
      have HE := Lib.hid heq
      have HB := Lib.hid hbl
      clear heq
      by_cases hlt : k < xs.length
      · have hlt2 : k < ys.length := by have := HN.out; omega
        obtain ⟨b1, o1, rfl, c1⟩ := Rd.at hr hbl (Nat.le_refl _) hlt
        obtain ⟨b2, o2, rfl, c2⟩ := Rd.at hs hbl (Nat.le_refl _) hlt2
        have HX := Lib.hid (take_snoc xs k hlt)
        have HY := Lib.hid (take_snoc ys k hlt2)
        have HD : Hid (xs = ys → xs.getD k 0 = ys.getD k 0) := Lib.hid (fun h => by rw [h])
        clear hbl hr hs
        generalize xs.getD k 0 = x at *
        generalize ys.getD k 0 = y at *
        by_cases hxy : x = y
        · have hb : (x != y) = false := by simp [hxy]
          go_wp2
          refine still_lit mixed' (by kernel_rfl) ?_
          repeat still_step
          refine wpStill_nil ?_
          go_wp2
          go_roundw
          case rel => exact ⟨k + 1, by omega, by go_num, by rw [HX.out, HY.out, HE.out, hxy], HB.out.drew⟩
          case measure => simp [intOf]; omega
        · have hb : (x != y) = true := by simp [hxy]
          have HF : Hid (decide (xs = ys) = false) := Lib.hid (by rw [decide_eq_false_iff_not]; exact fun h => hxy (HD.out h))
          clear hxy
          go_wp2
          refine still_lit mixed' (by kernel_rfl) ?_
          repeat still_step
          refine wpStill_nil ?_
          go_wp2
          go_ret
          exact ⟨ret_bool HF.out.symm, HB.out.drew⟩
      · obtain rfl : k = xs.length := by omega
        have HF : Hid (decide (xs = ys) = true) := Lib.hid (by
          rw [decide_eq_true_eq]
          have h := HE.out
          rw [List.take_of_length_le (Nat.le_refl _), List.take_of_length_le (by have := HN.out; omega)] at h
          exact h)
        clear hr hs hbl
        go_wp2
        go_ret
        exact ⟨ret_bool HF.out.symm, HB.out⟩
  · have HF : Hid (decide (xs = ys) = false) := Lib.hid (by rw [decide_eq_false_iff_not]; exact fun h => hn (by rw [h]))
    have hne : ((xs.length : Int) != (ys.length : Int)) = true := by rw [bne_iff_ne]; omega
    clear hr hs hn
    go_enter Try.func43, Try.ntmps43
    go_wp2
    go_ret
    exact ⟨ret_bool HF.out.symm, Below.refl _ _⟩

set_option maxRecDepth 100000 in
set_option maxHeartbeats 2000000 in
theorem sameKeys_any (a b : Option Addr) (ca cb : Nat) (xs ys : List Int) (w : World) (hr : Rd .i64 w a xs) (hs : Rd .i64 w b ys) (hl : xs.length ≤ 9223372036854775807) (hl2 : ys.length ≤ 9223372036854775807) :
    Calls Try.prog 44 #[.slice a xs.length ca, .slice b ys.length cb] w fun e w' => e = .returned (.bool (decide (xs = ys))) ∧ Below w.heap.size w w' := by
  by_cases hn : xs.length = ys.length
  · have HN := Lib.hid hn
    have hne : ((xs.length : Int) != (ys.length : Int)) = false := by simp [hn]
    clear hn
    go_enter Try.func44, Try.ntmps44
    go_wp2
    go_loopw [5] (fun i wr => ∃ k : Nat, k ≤ xs.length ∧ i = .int .i64 k ∧ xs.take k = ys.take k ∧ Below w.heap.size w wr) (fun i _ => xs.length - (intOf i).toNat)
    case atStart => exact ⟨0, Nat.zero_le _, rfl, rfl, Below.refl _ _⟩
    case round =>
      obtain ⟨k, hk, rfl, heq, hbl⟩ := hrel
      have HE := Lib.hid heq
      have HB := Lib.hid hbl
      clear heq
      by_cases hlt : k < xs.length
      · have hlt2 : k < ys.length := by have := HN.out; omega
        obtain ⟨b1, o1, rfl, c1⟩ := Rd.at hr hbl (Nat.le_refl _) hlt
        obtain ⟨b2, o2, rfl, c2⟩ := Rd.at hs hbl (Nat.le_refl _) hlt2
        have HX := Lib.hid (take_snoc xs k hlt)
        have HY := Lib.hid (take_snoc ys k hlt2)
        have HD : Hid (xs = ys → xs.getD k 0 = ys.getD k 0) := Lib.hid (fun h => by rw [h])
        clear hbl hr hs
        generalize xs.getD k 0 = x at *
        generalize ys.getD k 0 = y at *
        by_cases hxy : x = y
        · have hb : (x != y) = false := by simp [hxy]
          go_wp2
          refine still_lit mixed' (by kernel_rfl) ?_
          repeat still_step
          refine wpStill_nil ?_
          go_wp2
          go_roundw
          case rel => exact ⟨k + 1, by omega, by go_num, by rw [HX.out, HY.out, HE.out, hxy], HB.out.drew⟩
          case measure => simp [intOf]; omega
        · have hb : (x != y) = true := by simp [hxy]
          have HF : Hid (decide (xs = ys) = false) := Lib.hid (by rw [decide_eq_false_iff_not]; exact fun h => hxy (HD.out h))
          clear hxy
          go_wp2
          refine still_lit mixed' (by kernel_rfl) ?_
          repeat still_step
          refine wpStill_nil ?_
          go_wp2
          go_ret
          exact ⟨ret_bool HF.out.symm, HB.out.drew⟩
      · obtain rfl : k = xs.length := by omega
        have HF : Hid (decide (xs = ys) = true) := Lib.hid (by
          rw [decide_eq_true_eq]
          have h := HE.out
          rw [List.take_of_length_le (Nat.le_refl _), List.take_of_length_le (by have := HN.out; omega)] at h
          exact h)
        clear hr hs hbl
        go_wp2
        go_ret
        exact ⟨ret_bool HF.out.symm, HB.out⟩
  · have HF : Hid (decide (xs = ys) = false) := Lib.hid (by rw [decide_eq_false_iff_not]; exact fun h => hn (by rw [h]))
    have hne : ((xs.length : Int) != (ys.length : Int)) = true := by rw [bne_iff_ne]; omega
    clear hr hs hn
    go_enter Try.func44, Try.ntmps44
    go_wp2
    go_ret
    exact ⟨ret_bool HF.out.symm, Below.refl _ _⟩

/-- Do numbers rise? -/
def risesB (zs : List Int) : Bool := (List.range (zs.length - 1)).all (fun i => decide (zs.getD i 0 < zs.getD (i + 1) 0))
theorem risesB_iff {zs : List Int} : risesB zs = true ↔ ∀ i, i + 1 < zs.length → zs.getD i 0 < zs.getD (i + 1) 0 := by
  unfold risesB
  rw [List.all_eq_true]
  constructor
  · intro h i hi
    have := h i (List.mem_range.2 (by omega))
    simpa using this
  · intro h i hi
    have := h i (by have := List.mem_range.1 hi; omega)
    simpa using this

set_option maxRecDepth 100000 in
set_option maxHeartbeats 2000000 in
theorem rises_any (a : Option Addr) (ca : Nat) (xs : List Int) (w : World) (hr : Rd .i64 w a xs) (hl : xs.length ≤ 9223372036854775807) :
    Calls Try.prog 41 #[.slice a xs.length ca] w fun e w' => e = .returned (.bool (risesB xs)) ∧ Below w.heap.size w w' := by
  go_enter Try.func41, Try.ntmps41
  go_wp2
  go_loopw [3] (fun i wr => ∃ k : Nat, 1 ≤ k ∧ k ≤ xs.length + 1 ∧ i = .int .i64 k ∧ (∀ j, j + 1 < k → j + 1 < xs.length → xs.getD j 0 < xs.getD (j + 1) 0) ∧ Below w.heap.size w wr) (fun i _ => xs.length - (intOf i).toNat)
  case atStart => exact ⟨1, Nat.le_refl _, by omega, rfl, fun j hj => by omega, Below.refl _ _⟩
  case round =>
    obtain ⟨k, hk1, hk, rfl, hlow, hbl⟩ := hrel
    have HE := Lib.hid hlow
    have HB := Lib.hid hbl
    clear hlow
    by_cases hlt : k < xs.length
    · obtain ⟨b1, o1, rfl, c1⟩ := Rd.at hr hbl (Nat.le_refl _) hlt
      obtain ⟨b2, o2, e2, c2⟩ := Rd.at hr hbl (Nat.le_refl _) (show k - 1 < xs.length by omega)
      cases e2
      have HF : Hid (¬ xs.getD (k - 1) 0 < xs.getD k 0 → risesB xs = false) := Lib.hid (fun h => by
        rw [Bool.eq_false_iff]
        intro g
        have := risesB_iff.1 g (k - 1) (by omega)
        rw [show k - 1 + 1 = k by omega] at this
        exact h this)
      have HG : Hid (xs.getD (k - 1) 0 < xs.getD k 0 → ∀ j, j + 1 < k + 1 → j + 1 < xs.length → xs.getD j 0 < xs.getD (j + 1) 0) := Lib.hid (fun h j hj hj2 => by
        rcases Nat.lt_or_ge (j + 1) k with g | g
        · exact HE.out j g hj2
        · obtain rfl : j = k - 1 := by omega
          rw [show k - 1 + 1 = k by omega]; exact h)
      have hkm : (k : Int) - 1 = ((k - 1 : Nat) : Int) := by omega
      have wkm : IntKind.i64.wrap ((k : Int) - 1) = ((k - 1 : Nat) : Int) := by rw [IntKind.wrap_i64]; omega
      have wk1 : IntKind.i64.wrap ((k - 1 : Nat) : Int) = ((k - 1 : Nat) : Int) := by rw [IntKind.wrap_i64]; omega
      have hlt2 : k - 1 < xs.length := by omega
      clear hbl hr HE
      generalize xs.getD (k - 1) 0 = x at *
      generalize xs.getD k 0 = y at *
      generalize hj : k - 1 = j at *
      have HJ := Lib.hid hj
      clear hj
      by_cases hxy : x < y
      · go_wp2
        refine still_lit mixed' (by kernel_rfl) ?_
        repeat still_step
        refine wpStill_nil ?_
        go_wp2
        go_roundw
        case rel => exact ⟨k + 1, by omega, by omega, by go_num, HG.out hxy, HB.out.drew⟩
        case measure => simp [intOf]; omega
      · have HX := Lib.hid (HF.out hxy)
        go_wp2
        refine still_lit mixed' (by kernel_rfl) ?_
        repeat still_step
        refine wpStill_nil ?_
        go_wp2
        go_ret
        exact ⟨ret_bool HX.out.symm, HB.out.drew⟩
    · have HF : Hid (risesB xs = true) := Lib.hid (risesB_iff.2 (fun i hi => HE.out i (by omega) hi))
      clear hr hbl
      go_wp2
      go_ret
      exact ⟨ret_bool HF.out.symm, HB.out⟩
end Go.Proofs.Ytfdkaahkhgljdaa

namespace Go.Proofs.Ytfdkaahkhgljdaa
open Go.RowKit

theorem rd_src {k : IntKind} {w : World} {b off : Nat} {zs : List Int} (hc : ∀ i, i < zs.length → w.cell? ⟨b, off + i, Option.none⟩ = some (.int k (zs.getD i 0))) : ∀ j u, (zs.map (Value.int k))[j]? = some u → w.cell? ((⟨b, off, Option.none⟩ : Addr).add j) = some u := by
  intro j u hj
  have hjn : j < zs.length := by
    have := (List.getElem?_eq_some_iff.1 hj).1
    simpa using this
  rw [Addr.add_lit, hc j hjn]
  have e : (zs.map (Value.int k))[j]? = some (Value.int k (zs.getD j 0)) := by simp [List.getD, List.getElem?_eq_getElem hjn]
  rw [e] at hj
  exact hj
theorem ints_one {k : IntKind} {zs : List Int} : ∀ u ∈ zs.map (Value.int k), u.oneCell' = true := by intro u hu; obtain ⟨x, _, rfl⟩ := List.mem_map.1 hu; rfl
theorem new_cells (w : World) (t : TypeId) (news : Array Value) : ∀ j u, news.toList[j]? = some u → (w.alloc (.cells news t)).cell? ((⟨w.heap.size, 0, Option.none⟩ : Addr).add j) = some u := by
  intro j u h
  rw [Addr.add_lit, Nat.zero_add, cell_of_row (w.alloc (.cells news t)) w.heap.size j news t (0, 0) (heap_alloc_new w _)]
  simpa using h

variable {P : Program} {w0 : World} {ops : Array Oper} {rest : List Oper} {o : Oper} {A : Act} {Q : Exit → Act → World → Prop} {k : IntKind}

/-- A copy of integers that can be read. -/
theorem wpList_append_copy (hgd : o.guard = none) (s x : Operand) (t e : TypeId)
    (ho : o.op = .call { callee := .builtin .append, args := #[s, x], argTypes := #[t, t] })
    (i : TypeInfo) (bytes : Nat) (ht : P.underlying t = some (.slice e)) (hi : P.info? e = some i) (hz : i.zero = some (.int k 0)) (hsize : i.size = 1) (hby : i.bytes = bytes)
    (ad : Option Addr) (cap : Nat) (zs : List Int) (hs : A.eval s = .slice (some ⟨w0.heap.size, 0, Option.none⟩) 0 0) (hx : A.eval x = .slice ad zs.length cap)
    (hr : Rd k w0 ad zs) (hn : ad = Option.none → cap = 0) (h63 : zs.length ≤ maxLen) (hb : zs.length * bytes ≤ 140737488355328)
    (h : ∀ v' w', w'.ownsRow w0.heap.size e 1 v' zs.length (zs.map (Value.int k)) → Below w0.heap.size w0 w' → wpList P ops Q rest (A.put o.dst v') w') :
    wpList P ops Q (o :: rest) A (w0.alloc (.cells #[] e)) := by
  have hmade : (w0.alloc (.cells #[] e)).ownsRow w0.heap.size e 1 (.slice (some ⟨w0.heap.size, 0, Option.none⟩) 0 0) 0 [] := World.ownsRow_made w0 #[] 0 (Nat.le_refl _) (Nat.zero_le _) rfl
  have hbl : Below w0.heap.size w0 (w0.alloc (.cells #[] e)) := (Below.refl _ w0).alloc (Nat.le_refl _) _
  cases ad with
  | none =>
    obtain rfl := hn rfl
    have hz0 : zs = [] := by
      rcases hr with h | ⟨b, off, h, _⟩
      · exact h
      · cases h
    subst hz0
    refine wpList_append_own_none hgd s x t ho w0.heap.size e i 1 ht hi _ 0 [] hs hmade hx ?_
    exact h _ _ hmade hbl
  | some a =>
    have hcells : ∀ j u, (zs.map (Value.int k))[j]? = some u → (w0.alloc (.cells #[] e)).cell? (a.add j) = some u := by
      intro j u hj
      rcases hr with h | ⟨b, off, h, hlt, hc⟩
      · subst h; simp at hj
      · cases h
        refine rd_src (fun i hi => ?_) j u hj
        exact hbl.cell (p := ⟨b, off + i, Option.none⟩) hlt ▸ hc i hi
    refine wpList_append_own _ hgd s x t ho w0.heap.size e i (.int k 0) 1 bytes ht hi hz hsize hby rfl (by decide) _ 0 [] hs hmade a zs.length cap (zs.map (Value.int k)) hx (by simp) hcells ints_one (by simpa using h63) (by simpa using hb) (by simp) ?_
    intro v' w' hown hgrow _
    refine h v' w' (by simpa using hown) ?_
    exact hbl.grown hgrow (by simp) (by intro k hk; simp [Value.ownBlock] at hk; omega)

/-- Values behind a row of the call's own. -/
theorem wpList_append_news {base : Nat} {e : TypeId} {v : Value} {n : Nat} {xs : List Value} (hown : w0.ownsRow base e 1 v n xs) (hbase : base ≤ w0.heap.size)
    (hgd : o.guard = none) (s x : Operand) (t : TypeId)
    (ho : o.op = .call { callee := .builtin .append, args := #[s, x], argTypes := #[t, t] })
    (i : TypeInfo) (z : Value) (bytes : Nat) (ht : P.underlying t = some (.slice e)) (hi : P.info? e = some i) (hz : i.zero = some z) (hsize : i.size = 1) (hby : i.bytes = bytes) (hzs : z.cells.size = 1)
    (news : Array Value) (c : Nat) (hs : A.eval s = v) (hx : A.eval x = .slice (some ⟨w0.heap.size, 0, Option.none⟩) news.size c) (h1 : ∀ u ∈ news.toList, u.oneCell' = true)
    (h63 : n + news.size ≤ maxLen) (hb : (n + news.size) * bytes ≤ 140737488355328)
    (h : ∀ v' w', w'.ownsRow base e 1 v' (n + news.size) (xs ++ news.toList) → Below base w0 w' → wpList P ops Q rest (A.put o.dst v') w') :
    wpList P ops Q (o :: rest) A (w0.alloc (.cells news e)) := by
  refine wpList_append_own _ hgd s x t ho base e i z 1 bytes ht hi hz hsize hby hzs (by decide) v n xs hs (hown.alloc _) ⟨w0.heap.size, 0, Option.none⟩ news.size c news.toList hx (by simp) (new_cells w0 e news) h1 h63 hb (Nat.le_trans hbase (by simp)) ?_
  intro v' w' hown' hgrow _
  exact h v' w' hown' (((Below.refl base w0).alloc hbase _).grown hgrow (Nat.le_trans hbase (by simp)) (fun k hk => (World.ownsRow.lt hown k hk).1))

/-- Integers that can be read, behind a row of the call's own. -/
theorem wpList_append_onto {base : Nat} {e : TypeId} {v : Value} {n : Nat} {xs : List Value} (hown : w0.ownsRow base e 1 v n xs) (hbase : base ≤ w0.heap.size)
    (hgd : o.guard = none) (s x : Operand) (t : TypeId)
    (ho : o.op = .call { callee := .builtin .append, args := #[s, x], argTypes := #[t, t] })
    (i : TypeInfo) (bytes : Nat) (ht : P.underlying t = some (.slice e)) (hi : P.info? e = some i) (hz : i.zero = some (.int k 0)) (hsize : i.size = 1) (hby : i.bytes = bytes)
    (ad : Option Addr) (cap : Nat) (zs : List Int) (hs : A.eval s = v) (hx : A.eval x = .slice ad zs.length cap)
    (hr : Rd k w0 ad zs) (hn : ad = Option.none → cap = 0) (h63 : n + zs.length ≤ maxLen) (hb : (n + zs.length) * bytes ≤ 140737488355328)
    (h : ∀ v' w', w'.ownsRow base e 1 v' (n + zs.length) (xs ++ zs.map (Value.int k)) → Below base w0 w' → wpList P ops Q rest (A.put o.dst v') w') :
    wpList P ops Q (o :: rest) A w0 := by
  cases ad with
  | none =>
    obtain rfl := hn rfl
    have hz0 : zs = [] := by
      rcases hr with h | ⟨b, off, h, _⟩
      · exact h
      · cases h
    subst hz0
    refine wpList_append_own_none hgd s x t ho base e i 1 ht hi v n xs hs hown hx ?_
    exact h _ _ (by simpa using hown) (Below.refl _ _)
  | some a =>
    have hcells : ∀ j u, (zs.map (Value.int k))[j]? = some u → w0.cell? (a.add j) = some u := by
      intro j u hj
      rcases hr with h | ⟨b, off, h, hlt, hc⟩
      · subst h; simp at hj
      · cases h
        exact rd_src hc j u hj
    refine wpList_append_own _ hgd s x t ho base e i (.int k 0) 1 bytes ht hi hz hsize hby rfl (by decide) v n xs hs hown a zs.length cap (zs.map (Value.int k)) hx (by simp) hcells ints_one h63 hb hbase ?_
    intro v' w' hown' hgrow _
    exact h v' w' hown' ((Below.refl base w0).grown hgrow hbase (fun k hk => (World.ownsRow.lt hown k hk).1))

/-- What a call has made and owns, as an argument. -/
theorem owns_arg {w : World} {base : Nat} {e : TypeId} {v : Value} {n : Nat} {zs : List Int} (h : w.ownsRow base e 1 v n (zs.map (Value.int k))) :
    ∃ a cap, v = .slice a zs.length cap ∧ n = zs.length ∧ Rd k w a zs ∧ zs.length ≤ cap ∧ (a = Option.none → cap = 0) ∧ cap ≤ maxLen := by
  obtain ⟨a, cap, rfl, hn, hr⟩ := Rd.of_owns h
  refine ⟨a, cap, rfl, hn, hr, ?_⟩
  rcases h.2 with ⟨h1, h2⟩ | ⟨g, c2, cur, h1, _, _, hc, hm, _⟩
  · simp only [Value.slice.injEq] at h1
    obtain ⟨rfl, _, rfl⟩ := h1
    exact ⟨by omega, fun _ => rfl, Nat.zero_le _⟩
  · simp only [Value.slice.injEq] at h1
    obtain ⟨rfl, _, rfl⟩ := h1
    exact ⟨by omega, (by intro hq; cases hq), hm⟩

end Go.Proofs.Ytfdkaahkhgljdaa

namespace Go.Proofs.Ytfdkaahkhgljdaa
open Go.RowKit

theorem owns_below {w w' : World} {base : Nat} {e : TypeId} {s : Nat} {v : Value} {n : Nat} {xs : List Value} (h : w.ownsRow base e s v n xs) (hb : Below w.heap.size w w') : w'.ownsRow base e s v n xs :=
  h.kept (row := Option.none) ⟨hb.os, hb.tape, hb.output, hb.size, fun i hi _ => hb.block i hi⟩ (by
    cases hv : v.ownBlock with
    | none => exact .inl rfl
    | some k => exact .inr (by simp))
theorem owns_apart {w w' : World} {b1 b2 : Nat} {e1 e2 : TypeId} {s1 s2 : Nat} {v1 v2 : Value} {n1 n2 : Nat} {xs1 xs2 : List Value} (h1 : w.ownsRow b1 e1 s1 v1 n1 xs1) (h2 : w'.ownsRow b2 e2 s2 v2 n2 xs2) (hb : w.heap.size ≤ b2) : v2.ownBlock = Option.none ∨ v2.ownBlock ≠ v1.ownBlock := by
  cases hv : v2.ownBlock with
  | none => exact .inl rfl
  | some k =>
    refine .inr fun h => ?_
    have a1 := h1.lt k h.symm
    have a2 := h2.lt k hv
    omega

def numsK (k : IntKind) (zs : List Int) : List Value := zs.map (Value.int k)
theorem numsK_length (k : IntKind) (zs : List Int) : (numsK k zs).length = zs.length := by unfold numsK; simp
theorem numsK_get {k : IntKind} {cs : List Int} {i : Nat} (h : i < cs.length) : (numsK k cs)[i]? = some (.int k (cs.getD i 0)) := by simp [numsK, List.getD_eq_getElem?_getD, h]
theorem numsK_set (k : IntKind) (cs : List Int) (i : Nat) (u : Int) : numsK k (cs.set i u) = (numsK k cs).set i (.int k u) := by unfold numsK; rw [List.map_set]
/-- What a loop that writes a slice over leaves. -/
def SpoiltK (k : IntKind) (e : TypeId) (w0 : World) (B : Nat) (a : Option Addr) (n c : Nat) (wr : World) : Prop :=
  ∃ cs : List Int, cs.length = n ∧ wr.ownsRow B e 1 (.slice a n c) n (numsK k cs) ∧ w0.grownBy wr (Value.slice a n c).ownBlock
theorem SpoiltK.start {k : IntKind} {e : TypeId} {w0 : World} {B : Nat} {a : Option Addr} {c : Nat} {cs : List Int} (h : w0.ownsRow B e 1 (.slice a cs.length c) cs.length (numsK k cs)) : SpoiltK k e w0 B a cs.length c w0 :=
  ⟨cs, rfl, h, World.grownBy.refl _ _⟩
end Go.Proofs.Ytfdkaahkhgljdaa

namespace Go.Proofs.Ytfdkaahkhgljdaa
open Go.RowKit Go.Shelf

theorem numsK_one (k : IntKind) (zs : List Int) : ∀ u ∈ numsK k zs, u.oneCell' = true := by
  intro u hu
  unfold numsK at hu
  obtain ⟨z, _, rfl⟩ := List.mem_map.1 hu
  rfl
/-- A slice's address that is a row's beginning, or none. -/
def Plain (a : Option Addr) : Prop := a = Option.none ∨ ∃ b off, a = some ⟨b, off, Option.none⟩
theorem Plain.of_rd {k : IntKind} {w : World} {a : Option Addr} {zs : List Int} (h : Rd k w a zs) (hz : zs ≠ []) : Plain a := by
  rcases h with h | ⟨b, off, ha, _⟩
  · exact absurd h hz
  · exact .inr ⟨b, off, ha⟩
theorem Plain.of_owns {w : World} {base : Nat} {e : TypeId} {a : Option Addr} {n m c : Nat} {xs : List Value} (h : w.ownsRow base e 1 (.slice a n c) m xs) : Plain a := by
  rcases h.2 with ⟨h1, _⟩ | ⟨g, cap, cur, h1, _⟩
  · simp only [Value.slice.injEq] at h1; exact .inl h1.1
  · simp only [Value.slice.injEq] at h1; exact .inr ⟨_, _, h1.1⟩
theorem rd_none {k : IntKind} {w : World} {zs : List Int} (h : Rd k w Option.none zs) : zs = [] := by
  rcases h with h | ⟨b, off, ha, _⟩
  · exact h
  · cases ha

theorem infoU : (Try.prog.info? 25).map (fun i => (i.zero, i.size, i.bytes)) = some (some (.int .u64 0), 1, 8) := by kernel_rfl
theorem cloneU_some (b off ca : Nat) (zs : List Int) (w : World) (hr : Rd .u64 w (some ⟨b, off, Option.none⟩) zs) (hl : zs.length ≤ 100000) :
    Calls Try.prog 45 #[.slice (some ⟨b, off, Option.none⟩) zs.length ca] w fun e w' => ∃ v', e = .returned v' ∧ w'.ownsRow w.heap.size 25 1 v' zs.length (numsK .u64 zs) ∧ Below w.heap.size w w' := by
  obtain ⟨i0, hi, hz0, hz1, hz2⟩ := info_parts infoU
  have hcc : ∀ j u, (numsK .u64 zs)[j]? = some u → w.cell? ⟨b, off + j, Option.none⟩ = some u := by
    intro j u hj
    rcases hr with h | ⟨b', o', ha, _, hc⟩
    · subst h; simp [numsK] at hj
    · cases ha
      have hlt : j < zs.length := by
        rcases Nat.lt_or_ge j zs.length with h | h
        · exact h
        · rw [List.getElem?_eq_none (by rw [numsK_length]; exact h)] at hj; cases hj
      rw [numsK_get hlt] at hj
      rw [hc j hlt]; exact hj
  have H : Calls Try.prog 45 #[.slice (some ⟨b, off, Option.none⟩) zs.length ca] w fun e w' => ∃ v', e = .returned v' ∧ w'.ownsRow w.heap.size 25 1 v' zs.length (numsK .u64 zs) ∧ v' ≠ .slice Option.none 0 0 ∧ Below w.heap.size w w' := by
    first
      | exact Try.slices_Clone i0 (.int .u64 0) 1 8 hi hz0 hz1 hz2 rfl (by decide) Try.sizeOf25 b off zs.length ca (numsK .u64 zs) w (by rw [numsK_length]; omega) (by unfold maxLen; omega) (by omega) hcc (numsK_one _ zs)
      | exact Try.slices_Clone_f45 i0 (.int .u64 0) 1 8 hi hz0 hz1 hz2 rfl (by decide) Try.sizeOf25 b off zs.length ca (numsK .u64 zs) w (by rw [numsK_length]; omega) (by unfold maxLen; omega) (by omega) hcc (numsK_one _ zs)
  exact H.mono fun e w' ⟨v', h1, h2, _, h4⟩ => ⟨v', h1, h2, h4⟩
theorem cloneU_none (n ca : Nat) (w : World) : Calls Try.prog 45 #[.slice Option.none n ca] w fun e w' => e = .returned (.slice Option.none 0 0) ∧ w' = w := by
  first
    | exact Try.slices_Clone_nil n ca w
    | exact Try.slices_Clone_nil_f45 n ca w
theorem cloneU_any (a : Option Addr) (ca : Nat) (zs : List Int) (w : World) (hr : Rd .u64 w a zs) (hp : Plain a) (hl : zs.length ≤ 100000) :
    Calls Try.prog 45 #[.slice a zs.length ca] w fun e w' => ∃ v', e = .returned v' ∧ w'.ownsRow w.heap.size 25 1 v' zs.length (numsK .u64 zs) ∧ Below w.heap.size w w' := by
  rcases hp with rfl | ⟨b, off, rfl⟩
  · have hz := rd_none hr
    subst hz
    refine (cloneU_none _ ca w).mono ?_
    rintro e w' ⟨rfl, rfl⟩
    exact ⟨_, rfl, World.ownsRow_nil _ _ _ _, Below.refl _ _⟩
  · exact cloneU_some b off ca zs w hr hl

theorem infoK : (Try.prog.info? 2).map (fun i => (i.zero, i.size, i.bytes)) = some (some (.int .i64 0), 1, 8) := by kernel_rfl
theorem cloneK_some (b off ca : Nat) (zs : List Int) (w : World) (hr : Rd .i64 w (some ⟨b, off, Option.none⟩) zs) (hl : zs.length ≤ 100000) :
    Calls Try.prog 46 #[.slice (some ⟨b, off, Option.none⟩) zs.length ca] w fun e w' => ∃ v', e = .returned v' ∧ w'.ownsRow w.heap.size 2 1 v' zs.length (numsK .i64 zs) ∧ Below w.heap.size w w' := by
  obtain ⟨i0, hi, hz0, hz1, hz2⟩ := info_parts infoK
  have hcc : ∀ j u, (numsK .i64 zs)[j]? = some u → w.cell? ⟨b, off + j, Option.none⟩ = some u := by
    intro j u hj
    rcases hr with h | ⟨b', o', ha, _, hc⟩
    · subst h; simp [numsK] at hj
    · cases ha
      have hlt : j < zs.length := by
        rcases Nat.lt_or_ge j zs.length with h | h
        · exact h
        · rw [List.getElem?_eq_none (by rw [numsK_length]; exact h)] at hj; cases hj
      rw [numsK_get hlt] at hj
      rw [hc j hlt]; exact hj
  have H : Calls Try.prog 46 #[.slice (some ⟨b, off, Option.none⟩) zs.length ca] w fun e w' => ∃ v', e = .returned v' ∧ w'.ownsRow w.heap.size 2 1 v' zs.length (numsK .i64 zs) ∧ v' ≠ .slice Option.none 0 0 ∧ Below w.heap.size w w' := by
    first
      | exact Try.slices_Clone i0 (.int .i64 0) 1 8 hi hz0 hz1 hz2 rfl (by decide) Try.sizeOf2 b off zs.length ca (numsK .i64 zs) w (by rw [numsK_length]; omega) (by unfold maxLen; omega) (by omega) hcc (numsK_one _ zs)
      | exact Try.slices_Clone_f46 i0 (.int .i64 0) 1 8 hi hz0 hz1 hz2 rfl (by decide) Try.sizeOf2 b off zs.length ca (numsK .i64 zs) w (by rw [numsK_length]; omega) (by unfold maxLen; omega) (by omega) hcc (numsK_one _ zs)
  exact H.mono fun e w' ⟨v', h1, h2, _, h4⟩ => ⟨v', h1, h2, h4⟩
theorem cloneK_none (n ca : Nat) (w : World) : Calls Try.prog 46 #[.slice Option.none n ca] w fun e w' => e = .returned (.slice Option.none 0 0) ∧ w' = w := by
  first
    | exact Try.slices_Clone_nil n ca w
    | exact Try.slices_Clone_nil_f46 n ca w
theorem cloneK_any (a : Option Addr) (ca : Nat) (zs : List Int) (w : World) (hr : Rd .i64 w a zs) (hp : Plain a) (hl : zs.length ≤ 100000) :
    Calls Try.prog 46 #[.slice a zs.length ca] w fun e w' => ∃ v', e = .returned v' ∧ w'.ownsRow w.heap.size 2 1 v' zs.length (numsK .i64 zs) ∧ Below w.heap.size w w' := by
  rcases hp with rfl | ⟨b, off, rfl⟩
  · have hz := rd_none hr
    subst hz
    refine (cloneK_none _ ca w).mono ?_
    rintro e w' ⟨rfl, rfl⟩
    exact ⟨_, rfl, World.ownsRow_nil _ _ _ _, Below.refl _ _⟩
  · exact cloneK_some b off ca zs w hr hl

theorem infoI : (Try.prog.info? 3).map (fun i => (i.zero, i.size, i.bytes)) = some (some (.int .i64 0), 1, 8) := by kernel_rfl
theorem cloneI_some (b off ca : Nat) (zs : List Int) (w : World) (hr : Rd .i64 w (some ⟨b, off, Option.none⟩) zs) (hl : zs.length ≤ 100000) :
    Calls Try.prog 47 #[.slice (some ⟨b, off, Option.none⟩) zs.length ca] w fun e w' => ∃ v', e = .returned v' ∧ w'.ownsRow w.heap.size 3 1 v' zs.length (numsK .i64 zs) ∧ Below w.heap.size w w' := by
  obtain ⟨i0, hi, hz0, hz1, hz2⟩ := info_parts infoI
  have hcc : ∀ j u, (numsK .i64 zs)[j]? = some u → w.cell? ⟨b, off + j, Option.none⟩ = some u := by
    intro j u hj
    rcases hr with h | ⟨b', o', ha, _, hc⟩
    · subst h; simp [numsK] at hj
    · cases ha
      have hlt : j < zs.length := by
        rcases Nat.lt_or_ge j zs.length with h | h
        · exact h
        · rw [List.getElem?_eq_none (by rw [numsK_length]; exact h)] at hj; cases hj
      rw [numsK_get hlt] at hj
      rw [hc j hlt]; exact hj
  have H : Calls Try.prog 47 #[.slice (some ⟨b, off, Option.none⟩) zs.length ca] w fun e w' => ∃ v', e = .returned v' ∧ w'.ownsRow w.heap.size 3 1 v' zs.length (numsK .i64 zs) ∧ v' ≠ .slice Option.none 0 0 ∧ Below w.heap.size w w' := by
    first
      | exact Try.slices_Clone i0 (.int .i64 0) 1 8 hi hz0 hz1 hz2 rfl (by decide) Try.sizeOf3 b off zs.length ca (numsK .i64 zs) w (by rw [numsK_length]; omega) (by unfold maxLen; omega) (by omega) hcc (numsK_one _ zs)
      | exact Try.slices_Clone_f47 i0 (.int .i64 0) 1 8 hi hz0 hz1 hz2 rfl (by decide) Try.sizeOf3 b off zs.length ca (numsK .i64 zs) w (by rw [numsK_length]; omega) (by unfold maxLen; omega) (by omega) hcc (numsK_one _ zs)
  exact H.mono fun e w' ⟨v', h1, h2, _, h4⟩ => ⟨v', h1, h2, h4⟩
theorem cloneI_none (n ca : Nat) (w : World) : Calls Try.prog 47 #[.slice Option.none n ca] w fun e w' => e = .returned (.slice Option.none 0 0) ∧ w' = w := by
  first
    | exact Try.slices_Clone_nil n ca w
    | exact Try.slices_Clone_nil_f47 n ca w
theorem cloneI_any (a : Option Addr) (ca : Nat) (zs : List Int) (w : World) (hr : Rd .i64 w a zs) (hp : Plain a) (hl : zs.length ≤ 100000) :
    Calls Try.prog 47 #[.slice a zs.length ca] w fun e w' => ∃ v', e = .returned v' ∧ w'.ownsRow w.heap.size 3 1 v' zs.length (numsK .i64 zs) ∧ Below w.heap.size w w' := by
  rcases hp with rfl | ⟨b, off, rfl⟩
  · have hz := rd_none hr
    subst hz
    refine (cloneI_none _ ca w).mono ?_
    rintro e w' ⟨rfl, rfl⟩
    exact ⟨_, rfl, World.ownsRow_nil _ _ _ _, Below.refl _ _⟩
  · exact cloneI_some b off ca zs w hr hl

set_option maxRecDepth 100000 in
set_option maxHeartbeats 2000000 in
theorem equalK_any (a b : Option Addr) (ca cb : Nat) (xs ys : List Int) (w : World) (hr : Rd .i64 w a xs) (hs : Rd .i64 w b ys) (hl : xs.length ≤ 9223372036854775807) (hl2 : ys.length ≤ 9223372036854775807) :
    Calls Try.prog 57 #[.slice a xs.length ca, .slice b ys.length cb] w fun e w' => e = .returned (.bool (decide (xs = ys))) ∧ Below w.heap.size w w' := by
  by_cases hn : xs.length = ys.length
  · have HN := Lib.hid hn
    have hne : ((xs.length : Int) != (ys.length : Int)) = false := by simp [hn]
    clear hn
    go_enter Try.func57, Try.ntmps57
    go_wp2
    go_loopw [5, 13] (fun _ i wr => ∃ k : Nat, k ≤ xs.length ∧ i = .int .i64 k ∧ xs.take k = ys.take k ∧ Below w.heap.size w wr) (fun _ i _ => xs.length - (intOf i).toNat)
    case atStart => exact ⟨0, Nat.zero_le _, rfl, rfl, Below.refl _ _⟩
    case round =>
      obtain ⟨k, hk, rfl, heq, hbl⟩ := hrel
      have HE := Lib.hid heq
      have HB := Lib.hid hbl
      clear heq
      by_cases hlt : k < xs.length
      · have hlt2 : k < ys.length := by have := HN.out; omega
        obtain ⟨b1, o1, rfl, c1⟩ := Rd.at hr hbl (Nat.le_refl _) hlt
        obtain ⟨b2, o2, rfl, c2⟩ := Rd.at hs hbl (Nat.le_refl _) hlt2
        have HX := Lib.hid (take_snoc xs k hlt)
        have HY := Lib.hid (take_snoc ys k hlt2)
        have HD : Hid (xs = ys → xs.getD k 0 = ys.getD k 0) := Lib.hid (fun h => by rw [h])
        clear hbl hr hs
        generalize xs.getD k 0 = x at *
        generalize ys.getD k 0 = y at *
        by_cases hxy : x = y
        · have hb : (x != y) = false := by simp [hxy]
          go_wp2
          refine still_lit mixed' (by kernel_rfl) ?_
          repeat still_step
          refine wpStill_nil ?_
          go_wp2
          go_roundw
          case rel => exact ⟨k + 1, by omega, by go_num, by rw [HX.out, HY.out, HE.out, hxy], HB.out.drew⟩
          case measure => simp [intOf]; omega
        · have hb : (x != y) = true := by simp [hxy]
          have HF : Hid (decide (xs = ys) = false) := Lib.hid (by rw [decide_eq_false_iff_not]; exact fun h => hxy (HD.out h))
          clear hxy
          go_wp2
          refine still_lit mixed' (by kernel_rfl) ?_
          repeat still_step
          refine wpStill_nil ?_
          go_wp2
          go_ret
          exact ⟨ret_bool HF.out.symm, HB.out.drew⟩
      · obtain rfl : k = xs.length := by omega
        have HF : Hid (decide (xs = ys) = true) := Lib.hid (by
          rw [decide_eq_true_eq]
          have h := HE.out
          rw [List.take_of_length_le (Nat.le_refl _), List.take_of_length_le (by have := HN.out; omega)] at h
          exact h)
        clear hr hs hbl
        go_wp2
        go_ret
        exact ⟨ret_bool HF.out.symm, HB.out⟩
  · have HF : Hid (decide (xs = ys) = false) := Lib.hid (by rw [decide_eq_false_iff_not]; exact fun h => hn (by rw [h]))
    have hne : ((xs.length : Int) != (ys.length : Int)) = true := by rw [bne_iff_ne]; omega
    clear hr hs hn
    go_enter Try.func57, Try.ntmps57
    go_wp2
    go_ret
    exact ⟨ret_bool HF.out.symm, Below.refl _ _⟩


set_option maxRecDepth 100000 in
set_option maxHeartbeats 2000000 in
theorem equalI_any (a b : Option Addr) (ca cb : Nat) (xs ys : List Int) (w : World) (hr : Rd .i64 w a xs) (hs : Rd .i64 w b ys) (hl : xs.length ≤ 9223372036854775807) (hl2 : ys.length ≤ 9223372036854775807) :
    Calls Try.prog 58 #[.slice a xs.length ca, .slice b ys.length cb] w fun e w' => e = .returned (.bool (decide (xs = ys))) ∧ Below w.heap.size w w' := by
  by_cases hn : xs.length = ys.length
  · have HN := Lib.hid hn
    have hne : ((xs.length : Int) != (ys.length : Int)) = false := by simp [hn]
    clear hn
    go_enter Try.func58, Try.ntmps58
    go_wp2
    go_loopw [5, 13] (fun _ i wr => ∃ k : Nat, k ≤ xs.length ∧ i = .int .i64 k ∧ xs.take k = ys.take k ∧ Below w.heap.size w wr) (fun _ i _ => xs.length - (intOf i).toNat)
    case atStart => exact ⟨0, Nat.zero_le _, rfl, rfl, Below.refl _ _⟩
    case round =>
      obtain ⟨k, hk, rfl, heq, hbl⟩ := hrel
      have HE := Lib.hid heq
      have HB := Lib.hid hbl
      clear heq
      by_cases hlt : k < xs.length
      · have hlt2 : k < ys.length := by have := HN.out; omega
        obtain ⟨b1, o1, rfl, c1⟩ := Rd.at hr hbl (Nat.le_refl _) hlt
        obtain ⟨b2, o2, rfl, c2⟩ := Rd.at hs hbl (Nat.le_refl _) hlt2
        have HX := Lib.hid (take_snoc xs k hlt)
        have HY := Lib.hid (take_snoc ys k hlt2)
        have HD : Hid (xs = ys → xs.getD k 0 = ys.getD k 0) := Lib.hid (fun h => by rw [h])
        clear hbl hr hs
        generalize xs.getD k 0 = x at *
        generalize ys.getD k 0 = y at *
        by_cases hxy : x = y
        · have hb : (x != y) = false := by simp [hxy]
          go_wp2
          refine still_lit mixed' (by kernel_rfl) ?_
          repeat still_step
          refine wpStill_nil ?_
          go_wp2
          go_roundw
          case rel => exact ⟨k + 1, by omega, by go_num, by rw [HX.out, HY.out, HE.out, hxy], HB.out.drew⟩
          case measure => simp [intOf]; omega
        · have hb : (x != y) = true := by simp [hxy]
          have HF : Hid (decide (xs = ys) = false) := Lib.hid (by rw [decide_eq_false_iff_not]; exact fun h => hxy (HD.out h))
          clear hxy
          go_wp2
          refine still_lit mixed' (by kernel_rfl) ?_
          repeat still_step
          refine wpStill_nil ?_
          go_wp2
          go_ret
          exact ⟨ret_bool HF.out.symm, HB.out.drew⟩
      · obtain rfl : k = xs.length := by omega
        have HF : Hid (decide (xs = ys) = true) := Lib.hid (by
          rw [decide_eq_true_eq]
          have h := HE.out
          rw [List.take_of_length_le (Nat.le_refl _), List.take_of_length_le (by have := HN.out; omega)] at h
          exact h)
        clear hr hs hbl
        go_wp2
        go_ret
        exact ⟨ret_bool HF.out.symm, HB.out⟩
  · have HF : Hid (decide (xs = ys) = false) := Lib.hid (by rw [decide_eq_false_iff_not]; exact fun h => hn (by rw [h]))
    have hne : ((xs.length : Int) != (ys.length : Int)) = true := by rw [bne_iff_ne]; omega
    clear hr hs hn
    go_enter Try.func58, Try.ntmps58
    go_wp2
    go_ret
    exact ⟨ret_bool HF.out.symm, Below.refl _ _⟩


end Go.Proofs.Ytfdkaahkhgljdaa

namespace Go.Proofs.Ytfdkaahkhgljdaa.Occ
open Go.RowKit Go.Shelf Go.Proofs.Ytfdkaahkhgljdaa

set_option maxRecDepth 100000 in
set_option maxHeartbeats 2000000 in
theorem Equal_any (a b : Option Addr) (ca cb : Nat) (xs ys : List Int) (w : World) (hr : Rd .u64 w a xs) (hs : Rd .u64 w b ys) (hl : xs.length ≤ 9223372036854775807) (hl2 : ys.length ≤ 9223372036854775807) :
    Calls Try.prog 74 #[.slice a xs.length ca, .slice b ys.length cb] w fun e w' => e = .returned (.bool (decide (xs = ys))) ∧ Below w.heap.size w w' := by
  by_cases hn : xs.length = ys.length
  · have HN := Lib.hid hn
    have hne : ((xs.length : Int) != (ys.length : Int)) = false := by simp [hn]
    clear hn
    go_enter Try.func74, Try.ntmps74
    go_wp2
    go_loopw [5, 13] (fun _ i wr => ∃ k : Nat, k ≤ xs.length ∧ i = .int .i64 k ∧ xs.take k = ys.take k ∧ Below w.heap.size w wr) (fun _ i _ => xs.length - (intOf i).toNat)
    case atStart => exact ⟨0, Nat.zero_le _, rfl, rfl, Below.refl _ _⟩
    case round =>
      obtain ⟨k, hk, rfl, heq, hbl⟩ := hrel
      have HE := Lib.hid heq
      have HB := Lib.hid hbl
      clear heq
      by_cases hlt : k < xs.length
      · have hlt2 : k < ys.length := by have := HN.out; omega
        obtain ⟨b1, o1, rfl, c1⟩ := Rd.at hr hbl (Nat.le_refl _) hlt
        obtain ⟨b2, o2, rfl, c2⟩ := Rd.at hs hbl (Nat.le_refl _) hlt2
        have HX := Lib.hid (take_snoc xs k hlt)
        have HY := Lib.hid (take_snoc ys k hlt2)
        have HD : Hid (xs = ys → xs.getD k 0 = ys.getD k 0) := Lib.hid (fun h => by rw [h])
        clear hbl hr hs
        generalize xs.getD k 0 = x at *
        generalize ys.getD k 0 = y at *
        by_cases hxy : x = y
        · have hb : (x != y) = false := by simp [hxy]
          go_wp2
          refine still_lit mixed' (by kernel_rfl) ?_
          repeat still_step
          refine wpStill_nil ?_
          go_wp2
          go_roundw
          case rel => exact ⟨k + 1, by omega, by go_num, by rw [HX.out, HY.out, HE.out, hxy], HB.out.drew⟩
          case measure => simp [intOf]; omega
        · have hb : (x != y) = true := by simp [hxy]
          have HF : Hid (decide (xs = ys) = false) := Lib.hid (by rw [decide_eq_false_iff_not]; exact fun h => hxy (HD.out h))
          clear hxy
          go_wp2
          refine still_lit mixed' (by kernel_rfl) ?_
          repeat still_step
          refine wpStill_nil ?_
          go_wp2
          go_ret
          exact ⟨ret_bool HF.out.symm, HB.out.drew⟩
      · obtain rfl : k = xs.length := by omega
        have HF : Hid (decide (xs = ys) = true) := Lib.hid (by
          rw [decide_eq_true_eq]
          have h := HE.out
          rw [List.take_of_length_le (Nat.le_refl _), List.take_of_length_le (by have := HN.out; omega)] at h
          exact h)
        clear hr hs hbl
        go_wp2
        go_ret
        exact ⟨ret_bool HF.out.symm, HB.out⟩
  · have HF : Hid (decide (xs = ys) = false) := Lib.hid (by rw [decide_eq_false_iff_not]; exact fun h => hn (by rw [h]))
    have hne : ((xs.length : Int) != (ys.length : Int)) = true := by rw [bne_iff_ne]; omega
    clear hr hs hn
    go_enter Try.func74, Try.ntmps74
    go_wp2
    go_ret
    exact ⟨ret_bool HF.out.symm, Below.refl _ _⟩

set_option maxRecDepth 100000 in
theorem Same_any (a b : Option Addr) (ca cb : Nat) (xs ys : List Int) (w : World) (hr : Rd .u64 w a xs) (hs : Rd .u64 w b ys) (hl : xs.length ≤ 9223372036854775807) (hl2 : ys.length ≤ 9223372036854775807) :
    Calls Try.prog 56 #[.slice a xs.length ca, .slice b ys.length cb] w fun e w' => e = .returned (.bool (decide (xs = ys))) ∧ Below w.heap.size w w' := by
  have HE := Lib.hid (Equal_any a b ca cb xs ys w hr hs hl hl2)
  clear hr hs
  go_enter Try.func56, Try.ntmps56
  go_wp2_with fail
  refine HE.out.mono ?_
  rintro e w' ⟨rfl, hb⟩
  go_wp2
  go_ret
  exact ⟨rfl, hb⟩

end Go.Proofs.Ytfdkaahkhgljdaa.Occ

namespace Go.Proofs.Ytfdkaahkhgljdaa.Occ
open Go.RowKit Go.Proofs.Ytfdkaahkhgljdaa

/-- A word with one bit as is told. -/
def turn (x k : Nat) (b : Bool) : Nat := if x.testBit k = b then x else if b = true then x + 2 ^ k else x - 2 ^ k
def clr (x k : Nat) : Nat := x &&& (18446744073709551615 - 2 ^ k)
theorem mask_bit (k i : Nat) (hk : k < 64) : (18446744073709551615 - 2 ^ k).testBit i = (decide (i < 64) && decide (i ≠ k)) := by
  have h2 : 2 ^ k < 2 ^ 64 := Nat.pow_lt_pow_right (by decide) hk
  rw [show 18446744073709551615 - 2 ^ k = 2 ^ 64 - (2 ^ k + 1) by omega, Nat.testBit_two_pow_sub_succ h2, Nat.testBit_two_pow]
  by_cases h : k = i
  · subst h; simp
  · simp [h, Ne.symm h]
theorem clr_bit (x k i : Nat) (hx : x < 2 ^ 64) (hk : k < 64) : (clr x k).testBit i = (x.testBit i && decide (i ≠ k)) := by
  unfold clr
  rw [Nat.testBit_and, mask_bit k i hk]
  by_cases h : i < 64
  · simp [h]
  · rw [Nat.testBit_lt_two_pow (Nat.lt_of_lt_of_le hx (Nat.pow_le_pow_right (by decide) (Nat.not_lt.1 h)))]; simp
theorem or_add (x k : Nat) (hx : x < 2 ^ 64) (hk : k < 64) (h : x.testBit k = false) : x ||| 2 ^ k = x + 2 ^ k := by
  have h2 : 2 ^ k < 2 ^ 64 := Nat.pow_lt_pow_right (by decide) hk
  have ha : BitVec.ofNat 65 x &&& BitVec.ofNat 65 (2 ^ k) = 0#65 := by
    apply BitVec.eq_of_toNat_eq
    rw [BitVec.toNat_and, BitVec.toNat_ofNat, BitVec.toNat_ofNat, Nat.mod_eq_of_lt (by omega), Nat.mod_eq_of_lt (by omega)]
    apply Nat.eq_of_testBit_eq
    intro i
    rw [Nat.testBit_and, Nat.testBit_two_pow]
    by_cases hi : k = i
    · subst hi; simp [h]
    · simp [hi]
  have hb := congrArg BitVec.toNat (BitVec.add_eq_or_of_and_eq_zero _ _ ha)
  rw [BitVec.toNat_add, BitVec.toNat_or, BitVec.toNat_ofNat, BitVec.toNat_ofNat, Nat.mod_eq_of_lt (a := x) (by omega), Nat.mod_eq_of_lt (a := 2 ^ k) (by omega), Nat.mod_eq_of_lt (by omega)] at hb
  exact hb.symm
theorem clr_or (x k : Nat) (hx : x < 2 ^ 64) (hk : k < 64) : clr x k ||| 2 ^ k = x ||| 2 ^ k := by
  apply Nat.eq_of_testBit_eq
  intro i
  rw [Nat.testBit_or, Nat.testBit_or, clr_bit x k i hx hk, Nat.testBit_two_pow]
  by_cases hi : k = i
  · subst hi; simp
  · simp [hi, Ne.symm hi]
theorem clr_lt (x k : Nat) : clr x k ≤ x := Nat.and_le_left
theorem or_same (x k : Nat) (h : x.testBit k = true) : x ||| 2 ^ k = x := by
  apply Nat.eq_of_testBit_eq
  intro i
  rw [Nat.testBit_or, Nat.testBit_two_pow]
  by_cases hi : k = i
  · subst hi; simp [h]
  · simp [hi]
theorem turn_off (x k : Nat) (hx : x < 2 ^ 64) (hk : k < 64) : turn x k false = clr x k := by
  unfold turn
  by_cases h : x.testBit k = true
  · have h1 := or_add (clr x k) k (Nat.lt_of_le_of_lt (clr_lt x k) hx) hk (by rw [clr_bit x k k hx hk]; simp)
    rw [clr_or x k hx hk, or_same x k h] at h1
    simp [h]
    omega
  · rw [Bool.not_eq_true] at h
    rw [if_pos h]
    apply Nat.eq_of_testBit_eq
    intro i
    rw [clr_bit x k i hx hk]
    by_cases hi : i = k
    · subst hi; simp [h]
    · simp [hi]
theorem turn_on (x k : Nat) (hx : x < 2 ^ 64) (hk : k < 64) : turn x k true = clr x k ||| 2 ^ k := by
  unfold turn
  rw [clr_or x k hx hk]
  by_cases h : x.testBit k = true
  · rw [if_pos h, or_same x k h]
  · rw [if_neg h, if_pos rfl, or_add x k hx hk (by simpa using h)]
theorem turn_lt (x k : Nat) (b : Bool) (hx : x < 2 ^ 64) (hk : k < 64) : turn x k b < 2 ^ 64 := by
  cases b
  · rw [turn_off x k hx hk]; exact Nat.lt_of_le_of_lt (clr_lt x k) hx
  · rw [turn_on x k hx hk]; exact Nat.or_lt_two_pow (Nat.lt_of_le_of_lt (clr_lt x k) hx) (Nat.pow_lt_pow_right (by decide) hk)
theorem turn_bit (x k i : Nat) (b : Bool) (hx : x < 2 ^ 64) (hk : k < 64) : (turn x k b).testBit i = if i = k then b else x.testBit i := by
  cases b
  · rw [turn_off x k hx hk, clr_bit x k i hx hk]
    by_cases hi : i = k <;> simp [hi]
  · rw [turn_on x k hx hk, clr_or x k hx hk, Nat.testBit_or, Nat.testBit_two_pow]
    by_cases hi : i = k
    · simp [hi]
    · simp [hi, Ne.symm hi]
/-- Words with one slot as is told. -/
def putV (ws : List Int) (s : Nat) (b : Bool) : List Int := ws.set (s / 64) ((turn (wd ws (s / 64)) (s % 64) b : Nat) : Int)
theorem putV_length (ws : List Int) (s : Nat) (b : Bool) : (putV ws s b).length = ws.length := by unfold putV; rw [List.length_set]
theorem putV_u64 {ws : List Int} (hu : U64 ws) (s : Nat) (b : Bool) : U64 (putV ws s b) := by
  intro x hx
  unfold putV at hx
  rcases List.mem_or_eq_of_mem_set hx with h | h
  · exact hu x h
  · rw [h]
    have := turn_lt (wd ws (s / 64)) (s % 64) b (wd_of hu _) (Nat.mod_lt _ (by decide))
    omega
theorem putV_occ {ws : List Int} (hu : U64 ws) (s : Nat) (b : Bool) (hs : s < 64 * ws.length) (t : Nat) : occB (putV ws s b) t = if t = s then b else occB ws t := by
  unfold occB
  by_cases h : t / 64 = s / 64
  · have e : wd (putV ws s b) (t / 64) = turn (wd ws (s / 64)) (s % 64) b := by
      unfold putV
      rw [h]; unfold wd
      have : s / 64 < ws.length := by omega
      simp [List.getD_eq_getElem?_getD, this]
    rw [e, turn_bit _ _ _ _ (wd_of hu _) (Nat.mod_lt _ (by decide)), h]
    by_cases hm : t % 64 = s % 64
    · rw [if_pos hm, if_pos (by omega)]
    · rw [if_neg hm, if_neg (by intro g; exact hm (by rw [g]))]
  · have e : wd (putV ws s b) (t / 64) = wd ws (t / 64) := by
      unfold putV wd
      simp [List.getD_eq_getElem?_getD, List.getElem?_set, Ne.symm h]
    rw [e, if_neg (by intro g; exact h (by rw [g]))]

end Go.Proofs.Ytfdkaahkhgljdaa.Occ

namespace Go.Proofs.Ytfdkaahkhgljdaa.Occ
open Go.RowKit Go.Shelf Go.Proofs.Ytfdkaahkhgljdaa

def cells (zs : List Int) : List Value := zs.map (Value.int .u64)
def AnsW (V : List Int × Int) (w : World) (e : Ending) (w' : World) : Prop :=
  ∃ v, e = .returned (.tuple #[v, .int .i64 V.2]) ∧ w'.ownsRow w.heap.size 25 1 v V.1.length (cells V.1) ∧ Below w.heap.size w w'
def withV (ws : List Int) (n s : Int) (b : Bool) : List Int × Int := if askV ws n (atB n s) = 0 then (putV ws s.toNat b, 0) else ([], askV ws n (atB n s))
theorem infoW : (Try.prog.info? 25).map (fun i => (i.zero, i.size, i.bytes)) = some (some (.int .u64 0), 1, 8) := by kernel_rfl
theorem cells_length (zs : List Int) : (cells zs).length = zs.length := by unfold cells; simp
theorem cells_one (zs : List Int) : ∀ u ∈ cells zs, u.oneCell' = true := by
  intro u hu
  unfold cells at hu
  obtain ⟨z, _, rfl⟩ := List.mem_map.1 hu
  rfl
theorem cells_get (zs : List Int) (i : Nat) (h : i < zs.length) : (cells zs)[i]? = some (.int .u64 (zs.getD i 0)) := by
  unfold cells; simp [List.getD_eq_getElem?_getD, h]
theorem cells_set (zs : List Int) (i : Nat) (x : Int) : cells (zs.set i x) = (cells zs).set i (.int .u64 x) := by unfold cells; rw [List.map_set]
theorem clone_any (b off ca : Nat) (zs : List Int) (w : World) (hr : Rd .u64 w (some ⟨b, off, Option.none⟩) zs) (hl : zs.length ≤ 100000) :
    Calls Try.prog 45 #[.slice (some ⟨b, off, Option.none⟩) zs.length ca] w fun e w' => ∃ v', e = .returned v' ∧ w'.ownsRow w.heap.size 25 1 v' zs.length (cells zs) ∧ Below w.heap.size w w' := cloneU_some b off ca zs w hr hl
theorem owns_form {w : World} {base : Nat} {e : TypeId} {v : Value} {n : Nat} {xs : List Value} (h : w.ownsRow base e 1 v n xs) (hn : 0 < n) : ∃ g c, v = .slice (some ⟨g, 0, Option.none⟩) n c ∧ base ≤ g ∧ n ≤ c := by
  rcases h.2 with ⟨_, h0⟩ | ⟨g, cap, cur, hv, hg, _, hc, _⟩
  · have := h.1; rw [h0] at this; simp at this; omega
  · exact ⟨g, cap, hv, hg, hc⟩

end Go.Proofs.Ytfdkaahkhgljdaa.Occ

namespace Go.Proofs.Ytfdkaahkhgljdaa.Occ
open Go.RowKit Go.Shelf Go.Proofs.Ytfdkaahkhgljdaa

theorem bits_andNot_u64_nat (a b : Nat) (ha : a < 18446744073709551616) (hb : b < 18446744073709551616) : bits .andNot .u64 (a : Int) (b : Int) = ((a &&& (18446744073709551615 - b) : Nat) : Int) := by
  have hx : a &&& (18446744073709551615 - b) < 18446744073709551616 := Nat.lt_of_le_of_lt Nat.and_le_left ha
  have e1 : (BitVec.ofInt 64 (a : Int)).toNat = a := by rw [BitVec.ofInt_natCast, BitVec.toNat_ofNat]; exact Nat.mod_eq_of_lt (by omega)
  have e2 : (BitVec.ofInt 64 (b : Int)).toNat = b := by rw [BitVec.ofInt_natCast, BitVec.toNat_ofNat]; exact Nat.mod_eq_of_lt (by omega)
  show IntKind.u64.wrap ((BitVec.ofInt 64 (a : Int) &&& ~~~ BitVec.ofInt 64 (b : Int)).toNat : Int) = _
  rw [BitVec.toNat_and, BitVec.toNat_not, e1, e2, show 2 ^ 64 - 1 - b = 18446744073709551615 - b from rfl, IntKind.wrap_u64]
  omega

end Go.Proofs.Ytfdkaahkhgljdaa.Occ

namespace Go.Proofs.Ytfdkaahkhgljdaa.Occ
open Go.RowKit Go.Shelf Go.Proofs.Ytfdkaahkhgljdaa

theorem putV_same {ws : List Int} (hu : U64 ws) {s : Nat} {b : Bool} (h : occB ws s = b) (hs : s < 64 * ws.length) : putV ws s b = ws := by
  unfold occB at h
  unfold putV turn
  rw [if_pos h, ← wd_int hu]
  apply List.ext_getElem
  · rw [List.length_set]
  · intro i h1 h2
    rw [List.getElem_set]
    by_cases hi : s / 64 = i
    · subst hi; simp [List.getD_eq_getElem?_getD, h2]
    · simp [hi]
theorem putV_other {ws : List Int} {s : Nat} {b : Bool} (h : occB ws s ≠ b) : putV ws s b = ws.set (s / 64) ((if b = true then wd ws (s / 64) + 2 ^ (s % 64) else wd ws (s / 64) - 2 ^ (s % 64) : Nat) : Int) := by
  unfold occB at h
  unfold putV turn
  rw [if_neg h]
theorem bit_le (x k : Nat) (h : x.testBit k = true) : 2 ^ k ≤ x := Nat.ge_two_pow_of_testBit h

set_option maxRecDepth 100000 in
set_option maxHeartbeats 2000000 in
theorem Put_ok (a : Option Addr) (ca : Nat) (ws : List Int) (s : Nat) (is : Bool) (w : World) (hu : U64 ws) (hr : Rd .u64 w a ws) (hn : a = Option.none → ca = 0) (hl : ws.length ≤ 100000) (hs : s < 64 * ws.length) :
    Calls Try.prog 67 #[.slice a ws.length ca, .int .i64 s, .bool is] w fun e w' => ∃ v, e = .returned v ∧ w'.ownsRow w.heap.size 25 1 v ws.length (cells (putV ws s is)) ∧ Below w.heap.size w w' := by
  obtain ⟨i0, hi, hz0, hz1, hz2⟩ := info_parts infoW
  have HIS := Lib.hid (fun w1 hr1 => Is_any a ca ws s w1 hu hr1 hl hs)
  have HSAME : Hid (occB ws s = is → putV ws s is = ws) := Lib.hid (fun h => putV_same hu h hs)
  have HOTH : Hid (occB ws s ≠ is → putV ws s is = ws.set (s / 64) ((if is = true then wd ws (s / 64) + 2 ^ (s % 64) else wd ws (s / 64) - 2 ^ (s % 64) : Nat) : Int)) := Lib.hid putV_other
  have hx := wd_of hu (s / 64)
  have HT : Hid (is = true → occB ws s = false → wd ws (s / 64) + 2 ^ (s % 64) < 2 ^ 64) := Lib.hid (fun _ h => by
    have h1 := turn_lt (wd ws (s / 64)) (s % 64) true hx (Nat.mod_lt _ (by decide))
    unfold turn at h1
    unfold occB at h
    rw [h] at h1
    simpa using h1)
  have HF : Hid (occB ws s = true → 2 ^ (s % 64) ≤ wd ws (s / 64)) := Lib.hid (fun h => bit_le _ _ h)
  have HP : Hid (∀ y : Int, cells (ws.set (s / 64) y) = (cells ws).set (s / 64) (.int .u64 y)) := Lib.hid (fun y => cells_set ws _ _)
  have hcell0 := cells_get ws (s / 64) (by omega)
  rw [wd_int hu] at hcell0
  have hq : s / 64 < ws.length := by omega
  have hk : s % 64 < 64 := Nat.mod_lt _ (by decide)
  have hd : (s : Int) / 64 = ((s / 64 : Nat) : Int) := rfl
  have hmm : (s : Int) % 64 = ((s % 64 : Nat) : Int) := rfl
  clear hu
  generalize wd ws (s / 64) = x at *
  generalize s / 64 = j at *
  generalize s % 64 = k at *
  generalize hoc : occB ws s = o at *
  go_enter Try.func67, Try.ntmps67
  go_wp2_with (at_builtin; refine wpList_append_copy (k := .u64) rfl _ _ 22 25 rfl i0 8 Try.underlying22 hi hz0 hz1 hz2 a ca ws rfl rfl hr hn (by unfold maxLen; omega) (by omega) ?_)
  intro v w1 hv hb
  have HO : Hid (w1.ownsRow w.heap.size 25 1 v ws.length (cells ws)) := Lib.hid hv
  obtain ⟨g, c, rfl, hg0, hg1⟩ := owns_form hv (by omega)
  have HB := Lib.hid hb
  have HI := Lib.hid (HIS.out w1 (hr.mono hb (Nat.le_refl _)))
  clear hv hb hr HIS
  by_cases ho : o = is
  · have HE := Lib.hid (HSAME.out ho)
    subst ho
    go_wp2_with fail
    refine HI.out.mono ?_
    rintro e w' ⟨rfl, rfl⟩
    go_wp2
    go_ret
    exact ⟨_, rfl, by rw [HE.out]; exact HO.out, HB.out⟩
  · have HE := Lib.hid (HOTH.out ho)
    have hcell := HO.out.cellAt j (by omega)
    rw [hcell0] at hcell
    have hfr := HO.out.frozenAt j
    have HST := Lib.hid (fun y : Int => HO.out.stored j (.int .u64 y))
    have hne : (o == is) = false := by rw [beq_eq_false_iff_ne]; exact ho
    clear HSAME HOTH hcell0
    go_wp2_with fail
    refine HI.out.mono ?_
    rintro e w' ⟨rfl, rfl⟩
    go_wp2
    go_loop [8, 9] (fun y i => ∃ n : Nat, n ≤ k ∧ i = .int .i64 n ∧ y = .int .u64 ((2 ^ n : Nat) : Int)) (fun _ i => k - (intOf i).toNat)
    case atStart => exact ⟨0, Nat.zero_le _, rfl, rfl⟩
    case round =>
      obtain ⟨n, hnk, rfl, rfl⟩ := hrel
      by_cases hlt : n < k
      · have hp : 2 * 2 ^ n < 18446744073709551616 := by
          have : 2 ^ (n + 1) < 2 ^ 64 := Nat.pow_lt_pow_right (by decide) (by omega)
          rw [Nat.pow_succ] at this; omega
        have HW := Lib.hid (show 2 * 2 ^ n = 2 ^ (n + 1) by rw [Nat.pow_succ]; omega)
        generalize (2 ^ n : Nat) = pw at *
        go_wp2
        go_round
        case rel => exact ⟨n + 1, by omega, by go_num, by rw [← HW.out]; go_num⟩
        case measure => simp [intOf]; omega
      · obtain rfl : n = k := by omega
        have hp : 2 ^ n < 18446744073709551616 := Nat.pow_lt_pow_right (n := 64) (by decide) hk
        cases is
        · have ho2 : o = true := by cases o <;> simp_all
          have hge := HF.out ho2
          have HE2 : Hid (putV ws s false = ws.set j (((x - 2 ^ n : Nat) : Int))) := Lib.hid HE.out
          generalize (2 ^ n : Nat) = pw at *
          have hsub : (x : Int) - (pw : Int) = ((x - pw : Nat) : Int) := by omega
          have HH := Lib.hid hsub
          clear HT HF
          go_wp2
          go_ret
          refine ⟨_, rfl, ?_, ?_⟩
          · rw [HE2.out, HP.out, ← HH.out]; exact (HST.out _).1
          · exact HB.out.grown (HST.out _).2 HB.out.size (by intro k hk; cases hk; exact hg0)
        · have ho2 : o = false := by cases o <;> simp_all
          have hge := HT.out rfl ho2
          have HE2 : Hid (putV ws s true = ws.set j (((x + 2 ^ n : Nat) : Int))) := Lib.hid HE.out
          generalize (2 ^ n : Nat) = pw at *
          have HH : Hid ((x : Int) + (pw : Int) = ((x + pw : Nat) : Int)) := Lib.hid (by omega)
          have hge2 : x + pw < 18446744073709551616 := hge
          clear HT HF hge
          go_wp2
          go_ret
          refine ⟨_, rfl, ?_, ?_⟩
          · rw [HE2.out, HP.out, ← HH.out]; exact (HST.out _).1
          · exact HB.out.grown (HST.out _).2 HB.out.size (by intro k hk; cases hk; exact hg0)

end Go.Proofs.Ytfdkaahkhgljdaa.Occ
