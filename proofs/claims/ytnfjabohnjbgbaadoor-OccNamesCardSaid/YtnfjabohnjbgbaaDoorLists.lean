/- Lists of numbers in memory: the document's functions that compare them, or ask whether they rise. -/
import Derived.Test.YtnfjabohnjbgbaaDoorRf
namespace Go.Proofs.YtnfjabohnjbgbaaDoor
open Go.RowKit

theorem mixed' : Tryd.prog.follows .mixedOrders = true := by kernel_rfl
/-- A region that draws its order and only reads; the world under a name. -/
theorem still_lit {P : Program} {id : Nat} {Q : Exit → Act → World → Prop} {a : Act} {w : World} {l : List Oper} (hm : P.follows .mixedOrders = true) (hB : Region.lexB .any l.toArray = true)
    (h : wpStill P l.toArray w.drew (fun a' => Q .normal a' w.drew) l a) : (Code.region id l.toArray true).wp P Q a w := wp_region_still_lit hm hB h
theorem take_snoc (zs : List Int) (k : Nat) (h : k < zs.length) : zs.take (k + 1) = zs.take k ++ [zs.getD k 0] := by
  rw [List.take_succ_eq_append_getElem h]; simp [List.getD_eq_getElem?_getD, h]
theorem Rd.at {k : IntKind} {w w1 : World} {a : Option Addr} {zs : List Int} {n i : Nat} (h : Rd k w a zs) (hb : Below n w w1) (hn : w.heap.size ≤ n) (hi : i < zs.length) : ∃ b off, a = some ⟨b, off, Option.none⟩ ∧ w1.cell? ⟨b, off + i, Option.none⟩ = some (.int k (zs.getD i 0)) := by
  rcases h with h | ⟨b, off, ha, hlt, hc⟩
  · subst h; simp at hi
  · exact ⟨b, off, ha, (hb.cell (p := ⟨b, off + i, Option.none⟩) (Nat.lt_of_lt_of_le hlt hn)).trans (hc i hi)⟩

set_option maxRecDepth 100000 in
set_option maxHeartbeats 2000000 in
theorem sameWords_any (a b : Option Addr) (ca cb : Nat) (xs ys : List Int) (w : World) (hr : Rd .u64 w a xs) (hs : Rd .u64 w b ys) (hl : xs.length ≤ 9223372036854775807) (hl2 : ys.length ≤ 9223372036854775807) :
    Calls Tryd.prog 16 #[.slice a xs.length ca, .slice b ys.length cb] w fun e w' => e = .returned (.bool (decide (xs = ys))) ∧ Below w.heap.size w w' := by
  by_cases hn : xs.length = ys.length
  · have HN := Lib.hid hn
    have hne : ((xs.length : Int) != (ys.length : Int)) = false := by simp [hn]
    clear hn
    go_enter Tryd.func16, Tryd.ntmps16
    go_wp2
    go_loopw [5] (fun i wr => ∃ k : Nat, k ≤ xs.length ∧ i = .int .i64 k ∧ xs.take k = ys.take k ∧ Below w.heap.size w wr) (fun i _ => xs.length - (intOf i).toNat)
    case atStart => exact ⟨0, Nat.zero_le _, rfl, rfl, Below.refl _ _⟩
    case round =>
      obtain ⟨k, hk, rfl, heq, hbl⟩ := hrel
      have HE := Lib.hid heq
      have HB := Lib.hid hbl
      clear heq
      by_cases hlt : k < xs.length
      · have hlt2 : k < ys.length := by have := HN.out; omega
        obtain ⟨b1, o1, rfl, c1⟩ := Rd.at hr hbl (Nat.le_refl _) hlt
        obtain ⟨b2, o2, rfl, c2⟩ := Rd.at hs hbl (Nat.le_refl _) hlt2
        have HX := Lib.hid (take_snoc xs k hlt)
        have HY := Lib.hid (take_snoc ys k hlt2)
        have HD : Hid (xs = ys → xs.getD k 0 = ys.getD k 0) := Lib.hid (fun h => by rw [h])
        clear hbl hr hs
        generalize xs.getD k 0 = x at *
        generalize ys.getD k 0 = y at *
        by_cases hxy : x = y
        · have hb : (x != y) = false := by simp [hxy]
          go_wp2
          refine still_lit mixed' (by kernel_rfl) ?_
          repeat still_step
          refine wpStill_nil ?_
          go_wp2
          go_roundw
          case rel => exact ⟨k + 1, by omega, by go_num, by rw [HX.out, HY.out, HE.out, hxy], HB.out.drew⟩
          case measure => simp [intOf]; omega
        · have hb : (x != y) = true := by simp [hxy]
          have HF : Hid (decide (xs = ys) = false) := Lib.hid (by rw [decide_eq_false_iff_not]; exact fun h => hxy (HD.out h))
          clear hxy
          go_wp2
          refine still_lit mixed' (by kernel_rfl) ?_
          repeat still_step
          refine wpStill_nil ?_
          go_wp2
          go_ret
          exact ⟨ret_bool HF.out.symm, HB.out.drew⟩
      · obtain rfl : k = xs.length := by omega
        have HF : Hid (decide (xs = ys) = true) := Lib.hid (by
          rw [decide_eq_true_eq]
          have h := HE.out
          rw [List.take_of_length_le (Nat.le_refl _), List.take_of_length_le (by have := HN.out; omega)] at h
          exact h)
        clear hr hs hbl
        go_wp2
        go_ret
        exact ⟨ret_bool HF.out.symm, HB.out⟩
  · have HF : Hid (decide (xs = ys) = false) := Lib.hid (by rw [decide_eq_false_iff_not]; exact fun h => hn (by rw [h]))
    have hne : ((xs.length : Int) != (ys.length : Int)) = true := by rw [bne_iff_ne]; omega
    clear hr hs hn
    go_enter Tryd.func16, Tryd.ntmps16
    go_wp2
    go_ret
    exact ⟨ret_bool HF.out.symm, Below.refl _ _⟩

/-- Do numbers rise? -/
def risesB (zs : List Int) : Bool := (List.range (zs.length - 1)).all (fun i => decide (zs.getD i 0 < zs.getD (i + 1) 0))
theorem risesB_iff {zs : List Int} : risesB zs = true ↔ ∀ i, i + 1 < zs.length → zs.getD i 0 < zs.getD (i + 1) 0 := by
  unfold risesB
  rw [List.all_eq_true]
  constructor
  · intro h i hi
    have := h i (List.mem_range.2 (by omega))
    simpa using this
  · intro h i hi
    have := h i (by have := List.mem_range.1 hi; omega)
    simpa using this

end Go.Proofs.YtnfjabohnjbgbaaDoor
