/- Contracts of package occ: With. -/
import Derived.Test.YtnfjabohnjbgbaaDoorOcc4
import Derived.Test.YtnfjabohnjbgbaaDoorOccPut
import Derived.Test.YtnfjabohnjbgbaaDoorOwn
import Derived.Test.YtnfjabohnjbgbaaDoorShelf
import Derived.Laws.OwnMore
import Derived.BigRegion
namespace Go.Proofs.YtnfjabohnjbgbaaDoor.Occ
open Go.RowKit Go.Shelf Go.Proofs.YtnfjabohnjbgbaaDoor

def cells (zs : List Int) : List Value := zs.map (Value.int .u64)
def AnsW (V : List Int × Int) (w : World) (e : Ending) (w' : World) : Prop :=
  ∃ v, e = .returned (.tuple #[v, .int .i64 V.2]) ∧ w'.ownsRow w.heap.size 42 1 v V.1.length (cells V.1) ∧ Below w.heap.size w w'
def withV (ws : List Int) (n s : Int) (b : Bool) : List Int × Int := if askV ws n (atB n s) = 0 then (putV ws s.toNat b, 0) else ([], askV ws n (atB n s))
theorem infoW : (Tryd.prog.info? 42).map (fun i => (i.zero, i.size, i.bytes)) = some (some (.int .u64 0), 1, 8) := by kernel_rfl
theorem cells_length (zs : List Int) : (cells zs).length = zs.length := by unfold cells; simp
theorem cells_one (zs : List Int) : ∀ u ∈ cells zs, u.oneCell' = true := by
  intro u hu
  unfold cells at hu
  obtain ⟨z, _, rfl⟩ := List.mem_map.1 hu
  rfl
theorem cells_get (zs : List Int) (i : Nat) (h : i < zs.length) : (cells zs)[i]? = some (.int .u64 (zs.getD i 0)) := by
  unfold cells; simp [List.getD_eq_getElem?_getD, h]
theorem cells_set (zs : List Int) (i : Nat) (x : Int) : cells (zs.set i x) = (cells zs).set i (.int .u64 x) := by unfold cells; rw [List.map_set]
theorem clone_any (b off ca : Nat) (zs : List Int) (w : World) (hr : Rd .u64 w (some ⟨b, off, Option.none⟩) zs) (hl : zs.length ≤ 100000) :
    Calls Tryd.prog 35 #[.slice (some ⟨b, off, Option.none⟩) zs.length ca] w fun e w' => ∃ v', e = .returned v' ∧ w'.ownsRow w.heap.size 42 1 v' zs.length (cells zs) ∧ Below w.heap.size w w' := by
  obtain ⟨i0, hi, hz0, hz1, hz2⟩ := info_parts infoW
  refine (Tryd.slices_Clone i0 (.int .u64 0) 1 8 hi hz0 hz1 hz2 rfl (by decide) Tryd.sizeOf42 b off zs.length ca (cells zs) w (by rw [cells_length]; omega) (by unfold maxLen; omega) (by omega) ?_ (cells_one zs)).mono fun e w' ⟨v', h1, h2, _, h4⟩ => ⟨v', h1, h2, h4⟩
  intro j u hj
  rcases hr with h | ⟨b', o', ha, _, hc⟩
  · subst h; simp [cells] at hj
  · cases ha
    have hlt : j < zs.length := by
      rcases Nat.lt_or_ge j zs.length with h | h
      · exact h
      · rw [List.getElem?_eq_none (by rw [cells_length]; exact h)] at hj; cases hj
    rw [cells_get zs j hlt] at hj
    rw [hc j hlt]; exact hj
theorem owns_form {w : World} {base : Nat} {e : TypeId} {v : Value} {n : Nat} {xs : List Value} (h : w.ownsRow base e 1 v n xs) (hn : 0 < n) : ∃ g c, v = .slice (some ⟨g, 0, Option.none⟩) n c ∧ base ≤ g ∧ n ≤ c := by
  rcases h.2 with ⟨_, h0⟩ | ⟨g, cap, cur, hv, hg, _, hc, _⟩
  · have := h.1; rw [h0] at this; simp at this; omega
  · exact ⟨g, cap, hv, hg, hc⟩

end Go.Proofs.YtnfjabohnjbgbaaDoor.Occ
