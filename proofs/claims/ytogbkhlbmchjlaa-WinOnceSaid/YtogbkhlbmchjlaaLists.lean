/- Lists of numbers in memory: the document's functions that compare them, or ask whether they rise. -/
import Derived.Test.YtogbkhlbmchjlaaRf
namespace Go.Proofs.Ytogbkhlbmchjlaa
open Go.RowKit

theorem mixed' : Try.prog.follows .mixedOrders = true := by kernel_rfl
/-- A region that draws its order and only reads; the world under a name. -/
theorem still_lit {P : Program} {id : Nat} {Q : Exit → Act → World → Prop} {a : Act} {w : World} {l : List Oper} (hm : P.follows .mixedOrders = true) (hB : Region.lexB .any l.toArray = true)
    (h : wpStill P l.toArray w.drew (fun a' => Q .normal a' w.drew) l a) : (Code.region id l.toArray true).wp P Q a w := wp_region_still_lit hm hB h
theorem take_snoc (zs : List Int) (k : Nat) (h : k < zs.length) : zs.take (k + 1) = zs.take k ++ [zs.getD k 0] := by
  rw [List.take_succ_eq_append_getElem h]; simp [List.getD_eq_getElem?_getD, h]
theorem Rd.at {k : IntKind} {w w1 : World} {a : Option Addr} {zs : List Int} {n i : Nat} (h : Rd k w a zs) (hb : Below n w w1) (hn : w.heap.size ≤ n) (hi : i < zs.length) : ∃ b off, a = some ⟨b, off, Option.none⟩ ∧ w1.cell? ⟨b, off + i, Option.none⟩ = some (.int k (zs.getD i 0)) := by
  rcases h with h | ⟨b, off, ha, hlt, hc⟩
  · subst h; simp at hi
  · exact ⟨b, off, ha, (hb.cell (p := ⟨b, off + i, Option.none⟩) (Nat.lt_of_lt_of_le hlt hn)).trans (hc i hi)⟩

/-- Do numbers rise? -/
def risesB (zs : List Int) : Bool := (List.range (zs.length - 1)).all (fun i => decide (zs.getD i 0 < zs.getD (i + 1) 0))
theorem risesB_iff {zs : List Int} : risesB zs = true ↔ ∀ i, i + 1 < zs.length → zs.getD i 0 < zs.getD (i + 1) 0 := by
  unfold risesB
  rw [List.all_eq_true]
  constructor
  · intro h i hi
    have := h i (List.mem_range.2 (by omega))
    simpa using this
  · intro h i hi
    have := h i (by have := List.mem_range.1 hi; omega)
    simpa using this

end Go.Proofs.Ytogbkhlbmchjlaa
