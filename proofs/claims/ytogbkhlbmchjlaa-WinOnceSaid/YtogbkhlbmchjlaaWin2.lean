/- Contracts of package win and of the document's answer: windows around slots. -/
import Derived.Test.YtogbkhlbmchjlaaWin1
import Derived.Test.YtogbkhlbmchjlaaLists
namespace Go.Proofs.Ytogbkhlbmchjlaa.Win
open Go.RowKit Go.Shelf Go.Proofs.Ytogbkhlbmchjlaa Go.Proofs.Ytogbkhlbmchjlaa.Frac

def inR (size x : Int) : Bool := decide (0 ≤ x) && decide (x < size)
def askedV (seg size : Int) (zs : List Int) : Int × Int := if okB seg size = true ∧ zs.all (inR size) = true then (((highN seg size : Nat) : Int), 0) else (0, 2)
theorem all_take (p : Int → Bool) (zs : List Int) (k : Nat) (h : k < zs.length) : (zs.take (k + 1)).all p = ((zs.take k).all p && p (zs.getD k 0)) := by
  rw [take_snoc zs k h, List.all_append]; simp
theorem all_at {p : Int → Bool} {zs : List Int} {k : Nat} (h : k < zs.length) (hp : p (zs.getD k 0) = false) : zs.all p = false := by
  rw [Bool.eq_false_iff]
  intro g
  rw [List.all_eq_true] at g
  have hm : zs.getD k 0 ∈ zs := by
    have : zs.getD k 0 = zs[k] := by simp [List.getD_eq_getElem?_getD, h]
    rw [this]; exact List.getElem_mem _
  have := g _ hm
  rw [hp] at this; cases this

set_option maxRecDepth 100000 in
set_option maxHeartbeats 1000000 in
theorem asked_any (seg size : Int) (a : Option Addr) (ca : Nat) (zs : List Int) (w : World) (hr : Rd .i64 w a zs) (hl : zs.length ≤ 1000) :
    Calls Try.prog 25 #[.int .i64 seg, .int .i64 size, .slice a zs.length ca] w fun e w' => e = .returned (.tuple #[.int .i64 (askedV seg size zs).1, .int .i64 (askedV seg size zs).2]) ∧ w = w' := by
  by_cases h : okB seg size = true
  · have HV := Lib.hid (show highV seg size = (((highN seg size : Nat) : Int), 0) from if_pos h)
    have HA := Lib.hid (fun g : zs.all (inR size) = true => (show askedV seg size zs = (((highN seg size : Nat) : Int), 0) from if_pos ⟨h, g⟩))
    have HB := Lib.hid (fun g : zs.all (inR size) = false => (show askedV seg size zs = (0, 2) from if_neg (fun k => by rw [g] at k; cases k.2)))
    clear h
    go_enter Try.func25, Try.ntmps25
    go_wp2_with fail
    refine (High_any _ _ _).mono ?_
    rintro e w' ⟨rfl, rfl⟩
    rw [HV.out]
    go_wp2
    go_loop [23] (fun i => ∃ k : Nat, k ≤ zs.length ∧ i = .int .i64 k ∧ (zs.take k).all (inR size) = true) (fun i => zs.length - (intOf i).toNat)
    case atStart => exact ⟨0, Nat.zero_le _, rfl, rfl⟩
    case round =>
      obtain ⟨k, hk, rfl, hall⟩ := hrel
      have HL := Lib.hid hall
      clear hall
      by_cases hlt : k < zs.length
      · obtain ⟨b1, o1, rfl, c1⟩ := Rd.at hr (Below.refl _ _) (Nat.le_refl _) hlt
        have HT := Lib.hid (all_take (inR size) zs k hlt)
        have HF := Lib.hid (fun g => all_at (p := inR size) hlt g)
        clear hr
        generalize zs.getD k 0 = z at *
        by_cases h1 : 0 ≤ z
        · by_cases h2 : z < size
          · have HI : Hid (inR size z = true) := Lib.hid (by simp [inR, h1, h2])
            go_wp2
            go_round
            case rel => exact ⟨k + 1, by omega, by go_num, by rw [HT.out, HL.out, HI.out]; rfl⟩
            case measure => simp [intOf]; omega
          · have HI := Lib.hid (HB.out (HF.out (by simp [inR, h2])))
            go_wp2
            go_ret2
            exact ⟨ret_pair HI.out, rfl⟩
        · have HI := Lib.hid (HB.out (HF.out (by simp [inR, h1])))
          go_wp2
          go_ret2
          exact ⟨ret_pair HI.out, rfl⟩
      · have HX := Lib.hid (HA.out (by have := HL.out; rwa [List.take_of_length_le (by omega)] at this))
        clear hr
        go_wp2
        go_ret2
        exact ⟨ret_pair HX.out, rfl⟩
  · have HV := Lib.hid (show highV seg size = (0, 2) from if_neg h)
    have HA := Lib.hid (show askedV seg size zs = (0, 2) from if_neg (fun g => h g.1))
    clear h hr
    go_enter Try.func25, Try.ntmps25
    go_wp2_with fail
    refine (High_any _ _ _).mono ?_
    rintro e w' ⟨rfl, rfl⟩
    rw [HV.out]
    go_wp2
    go_ret2
    exact ⟨ret_pair HA.out, rfl⟩

/-- Its one slot is in a block that is new. -/
theorem asked_one (seg size s : Int) (w : World) :
    Calls Try.prog 25 #[.int .i64 seg, .int .i64 size, .slice (some ⟨w.heap.size, 0, Option.none⟩) 1 1] (w.alloc (.cells #[.int .i64 s] 3)) fun e w' => e = .returned (.tuple #[.int .i64 (askedV seg size [s]).1, .int .i64 (askedV seg size [s]).2]) ∧ w.alloc (.cells #[.int .i64 s] 3) = w' :=
  asked_any seg size _ 1 [s] _ (.inr ⟨w.heap.size, 0, rfl, by simp, fun i hi => by
    obtain rfl : i = 0 := by simpa using hi
    rw [cell_of_row _ w.heap.size _ _ 3 (0, 0) (heap_alloc_new w _)]; rfl⟩) (by simp)
theorem asked_two (seg size s t : Int) (w : World) :
    Calls Try.prog 25 #[.int .i64 seg, .int .i64 size, .slice (some ⟨w.heap.size, 0, Option.none⟩) 2 2] (w.alloc (.cells #[.int .i64 s, .int .i64 t] 3)) fun e w' => e = .returned (.tuple #[.int .i64 (askedV seg size [s, t]).1, .int .i64 (askedV seg size [s, t]).2]) ∧ w.alloc (.cells #[.int .i64 s, .int .i64 t] 3) = w' :=
  asked_any seg size _ 2 [s, t] _ (.inr ⟨w.heap.size, 0, rfl, by simp, fun i hi => by
    have hi2 : i < 2 := by simpa using hi
    rw [cell_of_row _ w.heap.size _ _ 3 (0, 0) (heap_alloc_new w _)]
    match i, hi2 with
    | 0, _ => rfl
    | 1, _ => rfl⟩) (by simp)

/-- The window's slots, as a power of two. -/
def kW (seg h : Int) : Nat := seg.toNat.log2 + h.toNat
def askA (seg size h s : Int) : Bool := okB seg size && inR size s && decide (0 ≤ h) && decide (h ≤ ((highN seg size : Nat) : Int))
def aroundV (seg size h s : Int) : Int × Int × Int := if askA seg size h s = true then (((lowW (kW seg h) s.toNat : Nat) : Int), ((lowW (kW seg h) s.toNat + 2 ^ kW seg h : Nat) : Int), 0) else (0, 0, 2)
theorem askA_iff {seg size h s : Int} : askA seg size h s = true ↔ okB seg size = true ∧ inR size s = true ∧ 0 ≤ h ∧ h ≤ ((highN seg size : Nat) : Int) := by
  unfold askA; simp only [Bool.and_eq_true, decide_eq_true_eq, and_assoc]
theorem inR_iff {size s : Int} : inR size s = true ↔ 0 ≤ s ∧ s < size := by unfold inR; simp only [Bool.and_eq_true, decide_eq_true_eq]
theorem ret_three {a b c : Int} {p : Int × Int × Int} (h : p = (a, b, c)) : Ending.returned (.tuple #[.int .i64 a, .int .i64 b, .int .i64 c]) = .returned (.tuple #[.int .i64 p.1, .int .i64 p.2.1, .int .i64 p.2.2]) := by rw [h]

set_option maxRecDepth 100000 in
set_option maxHeartbeats 2000000 in
theorem Around_any (seg size h s : Int) (w : World) : Calls Try.prog 11 #[.int .i64 seg, .int .i64 size, .int .i64 h, .int .i64 s] w fun e w' => e = .returned (.tuple #[.int .i64 (aroundV seg size h s).1, .int .i64 (aroundV seg size h s).2.1, .int .i64 (aroundV seg size h s).2.2]) ∧ Below w.heap.size w w' := by
  have hb0 : Below w.heap.size w (w.alloc (.cells #[.int .i64 s] 3)) := (Below.refl _ w).alloc (Nat.le_refl _) _
  by_cases hq : okB seg size = true ∧ inR size s = true
  · have HA := Lib.hid (show askedV seg size [s] = (((highN seg size : Nat) : Int), 0) from if_pos ⟨hq.1, by simp [hq.2]⟩)
    by_cases h1 : 0 ≤ h
    · by_cases h2 : h ≤ ((highN seg size : Nat) : Int)
      · have HV := Lib.hid (show aroundV seg size h s = (((lowW (kW seg h) s.toNat : Nat) : Int), ((lowW (kW seg h) s.toNat + 2 ^ kW seg h : Nat) : Int), 0) from if_pos (askA_iff.2 ⟨hq.1, hq.2, h1, h2⟩))
        obtain ⟨a, c, rfl, rfl, q1, q2, q3⟩ := okB_form hq.1
        obtain ⟨s0, s1⟩ := inR_iff.1 hq.2
        rw [highN_of] at h2 HA
        obtain ⟨h, rfl⟩ := Int.eq_ofNat_of_zero_le h1
        obtain ⟨s, rfl⟩ := Int.eq_ofNat_of_zero_le s0
        have hk : kW ((2 ^ a : Nat) : Int) (h : Int) = a + h := by unfold kW; rw [Int.toNat_natCast, Int.toNat_natCast, Nat.log2_two_pow]
        rw [hk, Int.toNat_natCast] at HV
        have hs16 : 2 ^ (a + c) ≤ 2 ^ 16 := Nat.pow_le_pow_right (by decide) q3
        have HAR := Lib.hid (around_any (a + h) s · (by omega) (by omega))
        have hm : ((2 ^ a : Nat) : Int) * (2 : Int) ^ h = ((2 ^ (a + h) : Nat) : Int) := by rw [Nat.pow_add]; simp
        have hp16 : 2 ^ (a + h) ≤ 65536 := Nat.le_trans (Nat.pow_le_pow_right (by decide) (show a + h ≤ 16 by omega)) (by decide)
        have hlo := lowW_le (a + h) s
        have hs17 : s < 65536 := by omega
        clear hk hq h1 s0
        generalize (2 ^ a : Nat) = pa at *
        generalize (2 ^ (a + c) : Nat) = pn at *
        generalize lowW (a + h) s = lo at *
        generalize (2 ^ (a + h) : Nat) = p at *
        go_enter Try.func11, Try.ntmps11
        go_wp2_with fail
        refine (asked_one _ _ _ _).mono ?_
        rintro e w' ⟨rfl, rfl⟩
        rw [HA.out]
        go_wp2_with fail
        refine (HAR.out _).mono ?_
        rintro e w1 ⟨rfl, hb1⟩
        have HB1 := Lib.hid (bstep hb0 hb1)
        have hz1 : w.heap.size < w1.heap.size := by have := hb1.size; simp at this; omega
        clear hb1
        have hsum : ((lo + p : Nat) : Int) = (lo : Int) + (p : Int) := by omega
        go_wp2_with fail
        refine still_lit mixed' (by kernel_rfl) ?_
        repeat still_step
        refine wpStill_nil ?_
        clear hsum
        go_wp2
        refine bodyPost_ret (v := .tuple #[.int .i64 lo, .int .i64 ((lo : Int) + (p : Int)), .int .i64 0]) (by simp [results, Try.results11, go_sem]) rfl ⟨ret_three (by rw [HV.out]; simp), ?_⟩
        first | exact (HB1.out.alloc HB1.out.size _).drew | exact HB1.out.drew.alloc HB1.out.size _
      · have HV := Lib.hid (show aroundV seg size h s = (0, 0, 2) from if_neg (fun g => h2 (askA_iff.1 g).2.2.2))
        clear hq
        go_enter Try.func11, Try.ntmps11
        go_wp2_with fail
        refine (asked_one _ _ _ _).mono ?_
        rintro e w' ⟨rfl, rfl⟩
        rw [HA.out]
        go_wp2
        refine bodyPost_ret (v := .tuple #[.int .i64 0, .int .i64 0, .int .i64 2]) (by simp [results, Try.results11, go_sem]) rfl ⟨ret_three HV.out, hb0⟩
    · have HV := Lib.hid (show aroundV seg size h s = (0, 0, 2) from if_neg (fun g => h1 (askA_iff.1 g).2.2.1))
      clear hq
      go_enter Try.func11, Try.ntmps11
      go_wp2_with fail
      refine (asked_one _ _ _ _).mono ?_
      rintro e w' ⟨rfl, rfl⟩
      rw [HA.out]
      go_wp2
      refine bodyPost_ret (v := .tuple #[.int .i64 0, .int .i64 0, .int .i64 2]) (by simp [results, Try.results11, go_sem]) rfl ⟨ret_three HV.out, hb0⟩
  · have HA := Lib.hid (show askedV seg size [s] = (0, 2) from if_neg (fun g => hq ⟨g.1, by simpa using g.2⟩))
    have HV := Lib.hid (show aroundV seg size h s = (0, 0, 2) from if_neg (fun g => hq ⟨(askA_iff.1 g).1, (askA_iff.1 g).2.1⟩))
    clear hq
    go_enter Try.func11, Try.ntmps11
    go_wp2_with fail
    refine (asked_one _ _ _ _).mono ?_
    rintro e w' ⟨rfl, rfl⟩
    rw [HA.out]
    go_wp2
    refine bodyPost_ret (v := .tuple #[.int .i64 0, .int .i64 0, .int .i64 2]) (by simp [results, Try.results11, go_sem]) rfl ⟨ret_three HV.out, hb0⟩

/-! ### The document's -/
set_option maxRecDepth 100000 in
set_option maxHeartbeats 2000000 in
theorem refAsked_any (seg size h s : Int) (w : World) : Calls Try.prog 27 #[.int .i64 seg, .int .i64 size, .int .i64 h, .int .i64 s] w fun e w' => e = .returned (.int .i64 (if askA seg size h s = true then 0 else 2)) ∧ w = w' := by
  by_cases hk : okB seg size = true
  · have HV := Lib.hid (show highV seg size = (((highN seg size : Nat) : Int), 0) from if_pos hk)
    have HT := Lib.hid (fun (g1 : 0 ≤ h) (g2 : h ≤ ((highN seg size : Nat) : Int)) (g3 : 0 ≤ s) (g4 : s < size) => (if_pos (askA_iff.2 ⟨hk, inR_iff.2 ⟨g3, g4⟩, g1, g2⟩) : (if askA seg size h s = true then (0 : Int) else 2) = 0))
    have HF := Lib.hid (fun g : ¬ (0 ≤ h ∧ h ≤ ((highN seg size : Nat) : Int) ∧ 0 ≤ s ∧ s < size) => (if_neg (fun k => by obtain ⟨_, k1, k2, k3⟩ := askA_iff.1 k; exact g ⟨k2, k3, (inR_iff.1 k1).1, (inR_iff.1 k1).2⟩) : (if askA seg size h s = true then (0 : Int) else 2) = 2))
    clear hk
    generalize highN seg size = H at *
    generalize (if askA seg size h s = true then (0 : Int) else 2) = r at *
    go_enter Try.func27, Try.ntmps27
    go_wp2_with fail
    refine (refHigh_any _ _ _).mono ?_
    rintro e w' ⟨rfl, rfl⟩
    rw [HV.out]
    by_cases g1 : 0 ≤ h
    · by_cases g2 : h ≤ (H : Int)
      · by_cases g3 : 0 ≤ s
        · by_cases g4 : s < size
          · have hr := HT.out g1 g2 g3 g4
            have HR := Lib.hid hr
            clear hr
            go_wp2
            go_ret
            exact ⟨ret_int HR.out.symm, rfl⟩
          · have HR := Lib.hid (HF.out (fun g => g4 g.2.2.2))
            go_wp2
            go_ret
            exact ⟨ret_int HR.out.symm, rfl⟩
        · have HR := Lib.hid (HF.out (fun g => g3 g.2.2.1))
          go_wp2
          go_ret
          exact ⟨ret_int HR.out.symm, rfl⟩
      · have HR := Lib.hid (HF.out (fun g => g2 g.2.1))
        go_wp2
        go_ret
        exact ⟨ret_int HR.out.symm, rfl⟩
    · have HR := Lib.hid (HF.out (fun g => g1 g.1))
      go_wp2
      go_ret
      exact ⟨ret_int HR.out.symm, rfl⟩
  · have HV := Lib.hid (show highV seg size = (0, 2) from if_neg hk)
    have HR := Lib.hid (show (if askA seg size h s = true then (0 : Int) else 2) = 2 from if_neg (fun g => hk (askA_iff.1 g).1))
    clear hk
    generalize (if askA seg size h s = true then (0 : Int) else 2) = r at *
    go_enter Try.func27, Try.ntmps27
    go_wp2_with fail
    refine (refHigh_any _ _ _).mono ?_
    rintro e w' ⟨rfl, rfl⟩
    rw [HV.out]
    go_wp2
    go_ret
    exact ⟨ret_int HR.out.symm, rfl⟩

set_option maxRecDepth 100000 in
set_option maxHeartbeats 2000000 in
theorem refAround_any (seg size h s : Int) (w : World) : Calls Try.prog 12 #[.int .i64 seg, .int .i64 size, .int .i64 h, .int .i64 s] w fun e w' => e = .returned (.tuple #[.int .i64 (aroundV seg size h s).1, .int .i64 (aroundV seg size h s).2.1, .int .i64 (aroundV seg size h s).2.2]) ∧ w = w' := by
  by_cases hq : askA seg size h s = true
  · have HA := Lib.hid (show (if askA seg size h s = true then (0 : Int) else 2) = 0 from if_pos hq)
    have HV := Lib.hid (show aroundV seg size h s = (((lowW (kW seg h) s.toNat : Nat) : Int), ((lowW (kW seg h) s.toNat + 2 ^ kW seg h : Nat) : Int), 0) from if_pos hq)
    have HS := Lib.hid (refAsked_any seg size h s)
    obtain ⟨q0, qs, h1, h2⟩ := askA_iff.1 hq
    obtain ⟨a, c, rfl, rfl, q1, q2, q3⟩ := okB_form q0
    obtain ⟨s0, s1⟩ := inR_iff.1 qs
    rw [highN_of] at h2
    obtain ⟨h, rfl⟩ := Int.eq_ofNat_of_zero_le h1
    obtain ⟨s, rfl⟩ := Int.eq_ofNat_of_zero_le s0
    have hk : kW ((2 ^ a : Nat) : Int) (h : Int) = a + h := by unfold kW; rw [Int.toNat_natCast, Int.toNat_natCast, Nat.log2_two_pow]
    rw [hk, Int.toNat_natCast] at HV
    rw [HA.out] at HS
    have hs16 : 2 ^ (a + c) ≤ 2 ^ 16 := Nat.pow_le_pow_right (by decide) q3
    have HAR := Lib.hid (refOf_any a h s · (by omega) (by omega))
    clear hk hq q0 qs HA hs16
    generalize (2 ^ a : Nat) = pa at *
    generalize (2 ^ (a + c) : Nat) = pn at *
    generalize lowW (a + h) s = lo at *
    generalize (2 ^ (a + h) : Nat) = p at *
    generalize lo + p = up at *
    go_enter Try.func12, Try.ntmps12
    go_wp2_with fail
    refine (HS.out _).mono ?_
    rintro e w' ⟨rfl, rfl⟩
    go_wp2_with fail
    refine (HAR.out _).mono ?_
    rintro e w' ⟨rfl, rfl⟩
    go_wp2
    refine bodyPost_ret (v := .tuple #[.int .i64 lo, .int .i64 up, .int .i64 0]) (by simp [results, Try.results12, go_sem]) rfl ⟨ret_three HV.out, rfl⟩
  · have HA := Lib.hid (show (if askA seg size h s = true then (0 : Int) else 2) = 2 from if_neg hq)
    have HV := Lib.hid (show aroundV seg size h s = (0, 0, 2) from if_neg hq)
    have HS := Lib.hid (refAsked_any seg size h s)
    clear hq
    go_enter Try.func12, Try.ntmps12
    go_wp2_with fail
    refine (HS.out _).mono ?_
    rintro e w' ⟨rfl, rfl⟩
    rw [HA.out]
    go_wp2
    refine bodyPost_ret (v := .tuple #[.int .i64 0, .int .i64 0, .int .i64 2]) (by simp [results, Try.results12, go_sem]) rfl ⟨ret_three HV.out, rfl⟩

end Go.Proofs.Ytogbkhlbmchjlaa.Win
