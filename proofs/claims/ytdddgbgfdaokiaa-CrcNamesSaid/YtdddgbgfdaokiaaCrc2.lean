/- Contracts of crc's functions above 'behind': bytes that are cloned, sealed, opened. -/
import Derived.Test.YtdddgbgfdaokiaaCrc
import Derived.Test.YtdddgbgfdaokiaaShelf
import Derived.Laws.AppendOwnNone
namespace Go.Proofs.Ytdddgbgfdaokiaa.Crc
open Go.RowKit Go.Proofs.Ytdddgbgfdaokiaa

theorem info8 : (Try.prog.info? 5).map (fun i => (i.zero, i.size, i.bytes)) = some (some (.int .u8 0), 1, 1) := by kernel_rfl

abbrev nums8 (zs : List Int) : List Value := zs.map (Value.int .u8)

/-- The source's cells, as an append asks for them. -/
theorem src_cells {w : World} {b off : Nat} {zs : List Int} (hc : ∀ i, i < zs.length → w.cell? ⟨b, off + i, Option.none⟩ = some (.int .u8 (zs.getD i 0))) : ∀ j u, (nums8 zs)[j]? = some u → w.cell? ((⟨b, off, Option.none⟩ : Addr).add j) = some u := by
  intro j u hj
  have hjn : j < zs.length := by
    have := (List.getElem?_eq_some_iff.1 hj).1
    simpa using this
  rw [Addr.add_lit, hc j hjn]
  have e : (nums8 zs)[j]? = some (Value.int .u8 (zs.getD j 0)) := by simp [List.getD, List.getElem?_eq_getElem hjn]
  rw [e] at hj
  exact hj
theorem one_cells {zs : List Int} : ∀ u ∈ nums8 zs, u.oneCell' = true := by intro u hu; obtain ⟨x, _, rfl⟩ := List.mem_map.1 hu; rfl

set_option maxRecDepth 100000 in
set_option maxHeartbeats 1000000 in
theorem clone_any (a : Option Addr) (cap : Nat) (zs : List Int) (w : World) (hr : Rd .u8 w a zs) (hl : zs.length ≤ 140737488355328) :
    Calls Try.prog 27 #[.slice a zs.length cap] w fun e w' => ∃ v', e = .returned v' ∧ w'.ownsRow w.heap.size 5 1 v' zs.length (nums8 zs) ∧ Below w.heap.size w w' := by
  obtain ⟨i0, hi, hz0, hz1, hz2⟩ := info_parts info8
  have q22 : ∀ (w : World) (a : Option Addr) (n c n' c' : Nat), (binOp .eql 23 (.slice a n c) (.slice Option.none n' c')).run Try.prog w = .ok (.bool a.isNone) w := fun w a n c n' c' => Lib.run_eql_slice_nil w _ _ a n c n' c' Try.underlying23
  have hsome : zs ≠ [] ∨ a ≠ Option.none ∨ (zs = [] ∧ a = Option.none) := by
    by_cases h1 : zs = [] <;> by_cases h2 : a = Option.none <;> simp [h1, h2]
  cases a with
  | none =>
    have hz : zs = [] := by
      rcases hr with h | ⟨b, off, h, _⟩
      · exact h
      · cases h
    subst hz
    go_enter Try.func27, Try.ntmps27
    go_wp2
    go_ret
    exact ⟨_, rfl, World.ownsRow_nil _ _ _ _, Below.refl _ _⟩
  | some ad =>
    have hcells : ∀ j u, (nums8 zs)[j]? = some u → (w.alloc (.cells #[] 5)).cell? (ad.add j) = some u := by
      intro j u hj
      rcases hr with h | ⟨b, off, h, hlt, hc⟩
      · subst h; simp at hj
      · cases h
        refine src_cells (fun i hi => ?_) j u hj
        exact ((Below.refl w.heap.size w).alloc (Nat.le_refl _) _).cell (p := ⟨b, off + i, Option.none⟩) hlt ▸ hc i hi
    have A := Lib.hid hcells
    clear hcells hr hsome
    go_enter Try.func27, Try.ntmps27
    go_wp2_with (at_builtin; refine wpList_append_own _ rfl _ _ 23 rfl w.heap.size 5 i0 (.int .u8 0) 1 1 Try.underlying23 hi hz0 hz1 hz2 rfl (by decide) _ _ _ rfl (World.ownsRow_made w #[] 0 (Nat.le_refl _) (Nat.zero_le _) rfl) ad zs.length cap (nums8 zs) rfl ?qc1 ?qc2 ?qc3 ?qc4 ?qc5 ?qc6 ?_)
    case qc1 => simp
    case qc2 => exact A.out
    case qc3 => exact one_cells
    case qc4 => unfold maxLen; omega
    case qc5 => omega
    case qc6 => simp
    intro v' w1 hown hgrow hnil
    go_wp2
    go_ret
    refine ⟨v', rfl, by simpa using hown, ?_⟩
    exact ((Below.refl _ w).alloc (Nat.le_refl _) _).grown hgrow (by simp) (by intro k hk; simp [Value.ownBlock] at hk; omega)

end Go.Proofs.Ytdddgbgfdaokiaa.Crc
