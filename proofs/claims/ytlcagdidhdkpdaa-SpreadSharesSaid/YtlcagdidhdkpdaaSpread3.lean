/- Contracts of package spread: how many lie ahead. -/
import Derived.Test.YtlcagdidhdkpdaaSpread2
namespace Go.Proofs.Ytlcagdidhdkpdaa.Spr
open Go.RowKit Go.Shelf Go.Proofs.Ytlcagdidhdkpdaa
attribute [local go_sem] Oper.semAt_some

def rankV (n f t y : Int) : Int × Int := if mayB n f t = true ∧ f ≤ y ∧ y ≤ t then (((cnt n.toNat (t - f).toNat (y - f).toNat : Nat) : Int), 0) else (0, 2)

/-- Of places: those below a slot. -/
theorem cnt_places (n f d y : Nat) (hy : f ≤ y) : (placesL n f d).countP (fun x => decide (x < (y : Int))) = cnt n d (y - f) := by
  unfold placesL upto cnt
  rw [List.countP_map]
  apply List.countP_congr
  intro i _
  rw [Function.comp, decide_eq_true_eq, decide_eq_true_eq]
  unfold place
  generalize i * d / n = q
  omega
theorem places_ge (n f d : Nat) : ∀ x ∈ placesL n f d, (f : Int) ≤ x := by
  intro x hx
  unfold placesL upto at hx
  obtain ⟨i, _, rfl⟩ := List.mem_map.1 hx
  unfold place
  generalize i * d / n = q
  omega
theorem cnt_prefix {n f d y : Nat} {ini : List Int} {x : Int} (hy : f ≤ y) (hp : ini ++ [x] <+: placesL n f d) (hi : ∀ z ∈ ini, z < (y : Int)) (hx : (y : Int) ≤ x) : ((ini.length : Nat) : Int) = ((cnt n d (y - f) : Nat) : Int) := by
  rw [← cnt_places n f d y hy]
  obtain ⟨rest, hr⟩ := hp
  have hlen : ini.length < n := by
    have := congrArg List.length hr
    rw [placesL_length] at this
    simp at this; omega
  have hxi : x = ((place n f d ini.length : Nat) : Int) := by
    have h1 : (placesL n f d)[ini.length]? = some x := by rw [← hr]; simp
    unfold placesL upto at h1
    rw [List.getElem?_map, List.getElem?_range hlen] at h1
    simpa using h1.symm
  have hrest : ∀ z ∈ rest, (y : Int) ≤ z := by
    intro z hz
    obtain ⟨j, hj, hzj⟩ := List.getElem_of_mem hz
    have h1 : (placesL n f d)[ini.length + 1 + j]? = some z := by
      rw [← hr, List.getElem?_append_right (by simp)]
      simp only [List.length_append, List.length_cons, List.length_nil]
      rw [show ini.length + 1 + j - (ini.length + (0 + 1)) = j by omega, List.getElem?_eq_getElem hj, hzj]
    have hl2 : ini.length + 1 + j < n := by
      have := (List.getElem?_eq_some_iff.1 h1).1
      rwa [placesL_length] at this
    unfold placesL upto at h1
    rw [List.getElem?_map, List.getElem?_range hl2] at h1
    have hz2 : z = ((place n f d (ini.length + 1 + j) : Nat) : Int) := by simpa using h1.symm
    have hm := place_mono (d := d) (n := n) (show ini.length ≤ ini.length + 1 + j by omega)
    unfold place at *
    omega
  rw [← hr, List.append_assoc, List.countP_append]
  have h0 : ini.countP (fun x => decide (x < (y : Int))) = ini.length := by
    rw [List.countP_eq_length]
    intro z hz; simpa using hi z hz
  have h1 : ([x] ++ rest).countP (fun x => decide (x < (y : Int))) = 0 := by
    rw [List.countP_eq_zero]
    intro z hz
    rcases List.mem_append.1 hz with h | h
    · simp at h; subst h; simpa using hx
    · simpa using hrest z h
  omega
theorem cnt_all {n f d y : Nat} (hy : f ≤ y) (hi : ∀ z ∈ placesL n f d, z < (y : Int)) : (n : Int) = ((cnt n d (y - f) : Nat) : Int) := by
  rw [← cnt_places n f d y hy]
  have : (placesL n f d).countP (fun x => decide (x < (y : Int))) = (placesL n f d).length := by
    rw [List.countP_eq_length]
    intro z hz; simpa using hi z hz
  rw [this, placesL_length]

set_option maxRecDepth 100000 in
set_option maxHeartbeats 2000000 in
theorem rank_bad (n f t y : Int) (w : World) (h : ¬ (mayB n f t = true ∧ f ≤ y ∧ y ≤ t)) : Calls Try.prog 13 #[.int .i64 n, .int .i64 f, .int .i64 t, .int .i64 y] w fun e w' => e = .returned (.tuple #[.int .i64 0, .int .i64 2]) ∧ Below w.heap.size w w' := by
  by_cases hm : mayB n f t = true
  · have HM := Lib.hid hm
    by_cases h1 : f ≤ y
    · have h2 : ¬ y ≤ t := fun g => h ⟨hm, h1, g⟩
      clear hm h
      go_enter Try.func13, Try.ntmps13
      go_wp2_with fail
      refine (may_any _ _ _ _).mono ?_
      rintro e w' ⟨rfl, rfl⟩
      rw [HM.out]
      go_wp2
      exact bodyPost_ret (v := .tuple #[.int .i64 0, .int .i64 2]) (by simp [results, Try.results13, go_sem]) rfl ⟨rfl, ((Below.refl _ w).alloc (Nat.le_refl _) _).alloc (by simp) _⟩
    · clear hm h
      go_enter Try.func13, Try.ntmps13
      go_wp2_with fail
      refine (may_any _ _ _ _).mono ?_
      rintro e w' ⟨rfl, rfl⟩
      rw [HM.out]
      go_wp2
      exact bodyPost_ret (v := .tuple #[.int .i64 0, .int .i64 2]) (by simp [results, Try.results13, go_sem]) rfl ⟨rfl, ((Below.refl _ w).alloc (Nat.le_refl _) _).alloc (by simp) _⟩
  · have HM : Hid (mayB n f t = false) := Lib.hid (by simpa using hm)
    clear hm h
    go_enter Try.func13, Try.ntmps13
    go_wp2_with fail
    refine (may_any _ _ _ _).mono ?_
    rintro e w' ⟨rfl, rfl⟩
    rw [HM.out]
    go_wp2
    exact bodyPost_ret (v := .tuple #[.int .i64 0, .int .i64 2]) (by simp [results, Try.results13, go_sem]) rfl ⟨rfl, ((Below.refl _ w).alloc (Nat.le_refl _) _).alloc (by simp) _⟩

set_option maxRecDepth 100000 in
set_option maxHeartbeats 2000000 in
theorem rank_ok (n f t y d : Nat) (w : World) (hd : t = f + d) (ht : t ≤ 65536) (hnd : n ≤ d) (hy1 : f ≤ y) (hy2 : y ≤ t) : Calls Try.prog 13 #[.int .i64 n, .int .i64 f, .int .i64 t, .int .i64 y] w fun e w' => e = .returned (.tuple #[.int .i64 ((cnt n d (y - f) : Nat) : Int), .int .i64 0]) ∧ Below w.heap.size w w' := by
  have HM : Hid (mayB n f t = true) := Lib.hid (mayB_iff.2 (by omega))
  have HD := Lib.hid hd
  clear hd
  refine (callsIn_wide (n := 2)).1 ?_
  refine callsIn_of_wp_marks Try.func13 rfl trivial ?_ rfl
  simp only [Try.ntmps13, List.size_toArray, List.length_cons, List.length_nil, Nat.reduceAdd, Nat.reduceSub, Array.replicate_succ, Array.replicate_zero, List.push_toArray, List.append_toArray, List.nil_append, List.cons_append]
  gi_wp2_with fail
  refine ⟨trivial, (callsIn_wide.2 (may_any _ _ _ _)).mono ?_⟩
  rintro e w' ⟨rfl, rfl⟩
  rw [HM.out]
  gi_wp2_with fail
  refine ⟨trivial, (callsIn_wide.2 (places_any _ _ _ _)).mono ?_⟩
  rintro e w' ⟨rfl, rfl⟩
  have bY := Boxed.new w 3 (.int .i64 y)
  have bM := Boxed.new (w.alloc (.cells #[.int .i64 y] 3)) 3 (.int .i64 0)
  rw [World.size_alloc] at bM
  have bY := bY.alloc (.cells #[.int .i64 0] 3)
  have hw2 : ((w.alloc (.cells #[.int .i64 y] 3)).alloc (.cells #[.int .i64 0] 3)).heap.size = w.heap.size + 2 := by simp
  have hb2 : Below w.heap.size w ((w.alloc (.cells #[.int .i64 y] 3)).alloc (.cells #[.int .i64 0] 3)) := ((Below.refl _ w).alloc (Nat.le_refl _) _).alloc (by simp) _
  generalize (w.alloc (.cells #[.int .i64 y] 3)).alloc (.cells #[.int .i64 0] 3) = w2 at *
  have hst := places_stops 1 w.heap.size n f t d w2 HD.out ht hnd
  have hs := boxed_size w2 n f t
  have hbx := boxed_below w2 n f t
  have HW2 := Lib.hid hw2
  have HS := Lib.hid hs
  clear hw2 hs
  gi_wp2_with fail
  have hw2 : w2.heap.size ≤ w.heap.size + 2 ∧ w.heap.size + 2 ≤ w2.heap.size := by have := HW2.out; omega
  have hs : (boxed w2 n f t).heap.size ≤ w2.heap.size + 3 ∧ w2.heap.size + 3 ≤ (boxed w2 n f t).heap.size := by have := HS.out; omega
  have hd2 : d ≤ 65536 := by have := HD.out; omega
  have bY := bY.kept (grown0 hbx) (by simp)
  have bM := bM.kept (grown0 hbx) (by simp)
  have hB3 := hb2.trans (hbx.mono (by omega))
  generalize boxed w2 n f t = w3 at *
  have hKE := Keeps.b (n0 := w.heap.size) (lo := w2.heap.size) (hi := w2.heap.size + 3) (w := w3) (by omega) (by omega)
  refine rangeFunc_put (fun x => [(30, .int .i64 x), (10, .int .i64 x)]) rfl (by decide) (gf := 26) (lb := #[.pointer (some ⟨w2.heap.size, 0, Option.none⟩), .pointer (some ⟨w2.heap.size + 1, 0, Option.none⟩), .pointer (some ⟨w2.heap.size + 2, 0, Option.none⟩)]) rfl trivial (enters_of Try.func26 (by kernel_rfl) rfl) hst Keeps.t hKE (Below.refl _ _) (fun _ => rfl)
    (fun pre W => (W.cell? ⟨w.heap.size + 1, 0, Option.none⟩ = some (.int .i64 (pre.length : Int)) ∧ W.frozen? ⟨w.heap.size + 1, 0, Option.none⟩ = false ∧ W.cell? ⟨w.heap.size, 0, Option.none⟩ = some (.int .i64 y) ∧ ∀ z ∈ pre, z < (y : Int)) ∧ Below w.heap.size w W)
    (fun c pre W => (∃ ini x, pre = ini ++ [x] ∧ (∀ z ∈ ini, z < (y : Int)) ∧ (y : Int) ≤ x ∧ c = .exit 0 ∧ W.cell? ⟨w.heap.size + 1, 0, Option.none⟩ = some (.int .i64 (ini.length : Int)) ∧ W.frozen? ⟨w.heap.size + 1, 0, Option.none⟩ = false) ∧ Below w.heap.size w W)
    (OwnFrom.and (Own.from (fun s A B row hs hg hr => ⟨cell_kept hs.1 hg hr, (frozen_kept hs.1 hg hr).trans hs.2.1, cell_kept hs.2.2.1 hg hr, hs.2.2.2⟩) _) (ownFrom_below (Nat.le_refl _) (by omega)))
    (fun c => OwnFrom.and (Own.from (fun s A B row hs hg hr => by obtain ⟨ini, x, e1, e2, e3, e4, e5, e6⟩ := hs; exact ⟨ini, x, e1, e2, e3, e4, cell_kept e5 hg hr, (frozen_kept e5 hg hr).trans e6⟩) _) (ownFrom_below (Nat.le_refl _) (by omega)))
    ⟨⟨bM.cell, bM.frozen, bY.cell, by simp⟩, hB3⟩ ?assign ?body ?done ?stop
  case assign =>
    intro l x W K hK
    gi_wp2
    exact hK
  case body =>
    rintro l pre x W ⟨⟨hc, hf, hcy, hlt⟩, hB⟩ hN
    have HL := Lib.hid hlt
    clear hlt
    by_cases hx : x < (y : Int)
    · gi_wp2
      refine ⟨(KeepsOthers.setCell _ _ _).from _, (Keeps.refl _ _ _ W).setCell _ (by simp) (by simp; omega) _, ⟨⟨?_, ?_, ?_, ?_⟩, hB.setCell (by simp) _⟩⟩
      · rw [World.cell?_setCell_same' _ _ _ (by rw [hc]; rfl)]; simp
      · rw [World.frozen?_setCell]; exact hf
      · rw [World.cell?_setCell_other _ _ _ _ (by simp)]; exact hcy
      · intro z hz
        rcases List.mem_append.1 hz with h | h
        · exact HL.out z h
        · simp at h; subst h; exact hx
    · gi_wp2
      exact ⟨KeepsFrom.refl _ _, ⟨⟨pre, x, rfl, HL.out, by omega, rfl, hc, hf⟩, hB⟩⟩
  case done =>
    rintro D ys W hD rfl ⟨⟨hc, hf, hcy, hlt⟩, hB⟩ hK
    rw [placesL_length] at hc
    have hcn := cnt_all hy1 hlt
    have HC := Lib.hid hcn
    clear hlt hcn
    gi_wp2
    have hK' := (KeepsOthers.setCell W ⟨w.heap.size + 1, 0, Option.none⟩ (.int .i64 n)).same D _ hK rfl
    refine ⟨by simp, .inl ⟨_, _, rfl, run_takeDeferred hK', ?_⟩⟩
    have hc5 := cell_kept (World.cell?_setCell_same' W ⟨w.heap.size + 1, 0, Option.none⟩ (.int .i64 n) (by rw [hc]; rfl)) (grownBy_putObj' _ D (.deferred Option.none)) (fun r e => by cases e; exact ⟨_, hK', rfl⟩)
    refine ⟨.tuple #[.int .i64 n, .int .i64 0], by simp [results, Try.results13, go_sem, hc5], by rw [HC.out], ?_⟩
    exact (hB.setCell (by simp) _).trans (belowK_b (w := w) (Nat.le_refl _) _ D _ _ (by omega) hK' rfl rfl)
  case stop =>
    rintro D c pre W hD hpre ⟨⟨ini, x, rfl, h1, h2, rfl, hc, hf⟩, hB⟩ hK
    have hcn := cnt_prefix hy1 hpre h1 h2
    have HC := Lib.hid hcn
    clear h1 hcn
    gi_wp2
    have hK' := (KeepsOthers.setCell W ⟨w.heap.size + 1, 0, Option.none⟩ (.int .i64 ini.length)).same D _ hK rfl
    refine ⟨by simp, .inl ⟨_, _, rfl, run_takeDeferred hK', ?_⟩⟩
    have hc5 := cell_kept (World.cell?_setCell_same' W ⟨w.heap.size + 1, 0, Option.none⟩ (.int .i64 ini.length) (by rw [hc]; rfl)) (grownBy_putObj' _ D (.deferred Option.none)) (fun r e => by cases e; exact ⟨_, hK', rfl⟩)
    refine ⟨.tuple #[.int .i64 ini.length, .int .i64 0], by simp [results, Try.results13, go_sem, hc5], by rw [HC.out], ?_⟩
    exact (hB.setCell (by simp) _).trans (belowK_b (w := w) (Nat.le_refl _) _ D _ _ (by omega) hK' rfl rfl)

end Go.Proofs.Ytlcagdidhdkpdaa.Spr
