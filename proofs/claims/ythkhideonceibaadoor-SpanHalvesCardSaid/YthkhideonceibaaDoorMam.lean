/- Contracts of package seek: Rank, Next, Find, Last. Contracts of the document's answer for package seek. Package span, in plain Lean: neighbours, numbers and runs of keys. -/
import Derived.Test.YthkhideonceibaaDoorMal
set_option linter.unusedSimpArgs false
set_option linter.unusedVariables false
namespace Go.Proofs.YthkhideonceibaaDoor.Seek
open Go.RowKit Go.Shelf Go.Sort Go.Proofs.YthkhideonceibaaDoor Go.Proofs.YthkhideonceibaaDoor.Occ Go.Proofs.YthkhideonceibaaDoor.Slo
attribute [local go_sem] sval Oper.semAt_some

theorem nxt_ok {s : Sl} {key : Int} (h : (nxtV s key).2 = 0) : chkK s = 0 ∧ fromN s key < s.ks.length ∧ nxtV s key = ((fromN s key : Int), 0) := by
  by_cases hk : chkK s = 0
  · have e := nxt_from (key := key) hk
    by_cases h1 : fromN s key < s.ks.length
    · rw [if_pos h1] at e; exact ⟨hk, h1, e⟩
    · rw [if_neg h1] at e; rw [e] at h; simp at h
  · unfold nxtV at h; rw [if_neg hk] at h; exact absurd h hk
theorem retP {V : Int × Int} {a b : Int} (h : V = (a, b)) : Ending.returned (.tuple #[.int .i64 a, .int .i64 b]) = .returned (.tuple #[.int .i64 V.1, .int .i64 V.2]) := by rw [h]

set_option maxRecDepth 100000 in
set_option maxHeartbeats 4000000 in
theorem Rank_any (s : Sl) (h : Hd) (key : Int) (w : World) (hT : Tab w) (W : s.Wf) (R : SRd w s h) :
    Calls Tryd.prog 26 #[sval s h, .int .i64 key] w fun e w' => e = .returned (.tuple #[.int .i64 (rankV s key).1, .int .i64 (rankV s key).2]) ∧ Below w.heap.size w w' := by
  have E0 := Lib.hid (((((St.below' (allocS_below w s h))).and (St.rd (R.next (allocS_below w s h)))).and ((St.tab hT).next (allocS_below w s h))).and (St.bs (allocS_bs w s h)))
  have HC := Lib.hid (fun w1 (R : SRd w1 s h) => kCheck_any s h w1 W R)
  by_cases hk : chkK s = 0
  · have HF := Lib.hid (fun w1 (hT : Tab w1) (R : SRd w1 s h) => from_any s h key w1 hT W R hk)
    have HX := Lib.hid (fun w1 (R : SRd w1 s h) => Count_any h.aw h.cw s.ws s.ks.length 0 (fromN s key) w1 W.u R.fw W.lw)
    rw [cnt_from hk] at HX
    rw [hk] at HC
    clear R hT W hk
    generalize rankV s key = V at *
    obtain ⟨v1, v2⟩ := V
    generalize fromN s key = r at *
    dsimp only at HX
    unfold sval at *
    go_enter Tryd.func26, Tryd.ntmps26
    go_wp2_with fail
    rw [allocS_fold]
    generalize allocS w s h = w0 at *
    refine (HC.out _ E0.out.now.2.2.1).mono ?_
    rintro e w1 ⟨rfl, hb⟩
    have E1 := Lib.hid (E0.out.next hb)
    clear hb
    go_wp2_with fail
    refine region_qb' w1 w1.heap.size (Below.refl _ _) mixed' (by kernel_rfl) fun w2 hB hz => ?_
    have E2 := Lib.hid (E1.out.next hB)
    clear hB hz
    have EC := Lib.hid (fun d os => E2.out.next (below_regrown w2 d os))
    obtain ⟨⟨⟨bs_0, bs_1, bs_2, bs_3, bs_4, bs_5, -⟩, bs_l⟩, -, -, -⟩ := E2.out.now
    have qbs_0 := cell_regrown bs_0
    have qbs_1 := cell_regrown bs_1
    have qbs_2 := cell_regrown bs_2
    have qbs_3 := cell_regrown bs_3
    have qbs_4 := cell_regrown bs_4
    have qbs_5 := cell_regrown bs_5
    clear bs_0 bs_1 bs_2 bs_3 bs_4 bs_5 bs_l
    repeat (go_big_quiet_step (fail))
    go_big_quiet_step (exact Calls.regrown_of (HF.out _ (EC.out _ _).now.2.1 (EC.out _ _).now.2.2.1))
    repeat (go_big_quiet_step (fail))
    go_big_quiet_step (exact Calls.regrown_of (HX.out _ (EC.out _ _).now.2.2.1))
    repeat (go_big_quiet_step (fail))
    refine wpQuiet_nil ?_
    rintro _ ⟨⟨dq, osq⟩, rfl⟩
    have E3 := Lib.hid (EC.out dq osq)
    generalize grow (redrawn w2 dq) osq = w3 at *
    clear EC qbs_0 qbs_1 qbs_2 qbs_3 qbs_4 qbs_5
    go_wp2
    go_ret2
    exact ⟨rfl, E3.out.now.2.2.2⟩
  · have HV : Hid (rankV s key = (0, chkK s)) := Lib.hid (if_neg hk)
    have hne : (chkK s != 0) = true := by rw [bne_iff_ne]; exact hk
    generalize rankV s key = V at *
    generalize chkK s = c at *
    clear hk R hT W
    unfold sval at *
    go_enter Tryd.func26, Tryd.ntmps26
    go_wp2_with fail
    rw [allocS_fold]
    generalize allocS w s h = w0 at *
    refine (HC.out _ E0.out.now.2.2.1).mono ?_
    rintro e w1 ⟨rfl, hb⟩
    have E1 := Lib.hid (E0.out.next hb)
    clear hb
    go_wp2
    go_ret2
    exact ⟨retP HV.out, E1.out.now.2.2.2⟩

set_option maxRecDepth 100000 in
set_option maxHeartbeats 4000000 in
theorem kLast_any (s : Sl) (h : Hd) (key : Int) (w : World) (hT : Tab w) (W : s.Wf) (R : SRd w s h) :
    Calls Tryd.prog 39 #[sval s h, .int .i64 key] w fun e w' => e = .returned (.tuple #[.int .i64 (lasV s key).1, .int .i64 (lasV s key).2]) ∧ Below w.heap.size w w' := by
  have E0 := Lib.hid (((((St.below' (allocS_below w s h))).and (St.rd (R.next (allocS_below w s h)))).and ((St.tab hT).next (allocS_below w s h))).and (St.bs (allocS_bs w s h)))
  have HC := Lib.hid (fun w1 (R : SRd w1 s h) => kCheck_any s h w1 W R)
  by_cases hk : chkK s = 0
  · have HF := Lib.hid (fun w1 (hT : Tab w1) (R : SRd w1 s h) => from_any s h key w1 hT W R hk)
    have HX := Lib.hid (fun w1 (R : SRd w1 s h) => Last_any h.aw h.cw s.ws s.ks.length (fromN s key) w1 W.u R.fw W.lw)
    rw [last_from hk] at HX
    rw [hk] at HC
    clear R hT W hk
    generalize lasV s key = V at *
    obtain ⟨v1, v2⟩ := V
    generalize fromN s key = r at *
    dsimp only at HX
    unfold sval at *
    go_enter Tryd.func39, Tryd.ntmps39
    go_wp2_with fail
    rw [allocS_fold]
    generalize allocS w s h = w0 at *
    refine (HC.out _ E0.out.now.2.2.1).mono ?_
    rintro e w1 ⟨rfl, hb⟩
    have E1 := Lib.hid (E0.out.next hb)
    clear hb
    go_wp2_with fail
    refine region_qb' w1 w1.heap.size (Below.refl _ _) mixed' (by kernel_rfl) fun w2 hB hz => ?_
    have E2 := Lib.hid (E1.out.next hB)
    clear hB hz
    have EC := Lib.hid (fun d os => E2.out.next (below_regrown w2 d os))
    obtain ⟨⟨⟨bs_0, bs_1, bs_2, bs_3, bs_4, bs_5, -⟩, bs_l⟩, -, -, -⟩ := E2.out.now
    have qbs_0 := cell_regrown bs_0
    have qbs_1 := cell_regrown bs_1
    have qbs_2 := cell_regrown bs_2
    have qbs_3 := cell_regrown bs_3
    have qbs_4 := cell_regrown bs_4
    have qbs_5 := cell_regrown bs_5
    clear bs_0 bs_1 bs_2 bs_3 bs_4 bs_5 bs_l
    repeat (go_big_quiet_step (fail))
    go_big_quiet_step (exact Calls.regrown_of (HF.out _ (EC.out _ _).now.2.1 (EC.out _ _).now.2.2.1))
    repeat (go_big_quiet_step (fail))
    go_big_quiet_step (exact Calls.regrown_of (HX.out _ (EC.out _ _).now.2.2.1))
    repeat (go_big_quiet_step (fail))
    refine wpQuiet_nil ?_
    rintro _ ⟨⟨dq, osq⟩, rfl⟩
    have E3 := Lib.hid (EC.out dq osq)
    generalize grow (redrawn w2 dq) osq = w3 at *
    clear EC qbs_0 qbs_1 qbs_2 qbs_3 qbs_4 qbs_5
    go_wp2
    go_ret2
    exact ⟨rfl, E3.out.now.2.2.2⟩
  · have HV : Hid (lasV s key = (0, chkK s)) := Lib.hid (if_neg hk)
    have hne : (chkK s != 0) = true := by rw [bne_iff_ne]; exact hk
    generalize lasV s key = V at *
    generalize chkK s = c at *
    clear hk R hT W
    unfold sval at *
    go_enter Tryd.func39, Tryd.ntmps39
    go_wp2_with fail
    rw [allocS_fold]
    generalize allocS w s h = w0 at *
    refine (HC.out _ E0.out.now.2.2.1).mono ?_
    rintro e w1 ⟨rfl, hb⟩
    have E1 := Lib.hid (E0.out.next hb)
    clear hb
    go_wp2
    go_ret2
    exact ⟨retP HV.out, E1.out.now.2.2.2⟩

set_option maxRecDepth 100000 in
set_option maxHeartbeats 4000000 in
theorem kNext_any (s : Sl) (h : Hd) (key : Int) (w : World) (hT : Tab w) (W : s.Wf) (R : SRd w s h) :
    Calls Tryd.prog 30 #[sval s h, .int .i64 key] w fun e w' => e = .returned (.tuple #[.int .i64 (nxtV s key).1, .int .i64 (nxtV s key).2]) ∧ Below w.heap.size w w' := by
  have E0 := Lib.hid (((((St.below' (allocS_below w s h))).and (St.rd (R.next (allocS_below w s h)))).and ((St.tab hT).next (allocS_below w s h))).and (St.bs (allocS_bs w s h)))
  have HC := Lib.hid (fun w1 (R : SRd w1 s h) => kCheck_any s h w1 W R)
  by_cases hk : chkK s = 0
  · have HF := Lib.hid (fun w1 (hT : Tab w1) (R : SRd w1 s h) => from_any s h key w1 hT W R hk)
    have HV := Lib.hid (nxt_from (key := key) hk)
    have hle := from_le s key
    rw [hk] at HC
    clear R hT W hk
    generalize nxtV s key = V at *
    generalize fromN s key = r at *
    by_cases hlt : r < s.ks.length
    · have HV1 : Hid (V = ((r : Int), 0)) := Lib.hid (by rw [HV.out, if_pos hlt])
      have hb : ((r : Int) == (s.ks.length : Int)) = false := by rw [beq_eq_false_iff_ne]; omega
      clear HV hlt hle
      unfold sval at *
      go_enter Tryd.func30, Tryd.ntmps30
      go_wp2_with fail
      rw [allocS_fold]
      generalize allocS w s h = w0 at *
      refine (HC.out _ E0.out.now.2.2.1).mono ?_
      rintro e w1 ⟨rfl, hb⟩
      have E1 := Lib.hid (E0.out.next hb)
      clear hb
      obtain ⟨⟨⟨bs_0, bs_1, bs_2, bs_3, bs_4, bs_5, -⟩, bs_l⟩, -, -, -⟩ := E1.out.now
      go_wp2_with fail
      clear bs_0 bs_1 bs_2 bs_3 bs_4 bs_5 bs_l
      refine (HF.out _ E1.out.now.2.1 E1.out.now.2.2.1).mono ?_
      rintro e w2 ⟨rfl, hb⟩
      have E2 := Lib.hid (E1.out.next hb)
      clear hb
      obtain ⟨⟨⟨bs_0, bs_1, bs_2, bs_3, bs_4, bs_5, -⟩, bs_l⟩, -, -, -⟩ := E2.out.now
      go_wp2
      go_ret2
      exact ⟨retP HV1.out, E2.out.now.2.2.2⟩
    · have HV1 : Hid (V = (0, 6)) := Lib.hid (by rw [HV.out, if_neg hlt])
      have hb : ((r : Int) == (s.ks.length : Int)) = true := by rw [beq_iff_eq]; omega
      clear HV hlt hle
      unfold sval at *
      go_enter Tryd.func30, Tryd.ntmps30
      go_wp2_with fail
      rw [allocS_fold]
      generalize allocS w s h = w0 at *
      refine (HC.out _ E0.out.now.2.2.1).mono ?_
      rintro e w1 ⟨rfl, hb⟩
      have E1 := Lib.hid (E0.out.next hb)
      clear hb
      obtain ⟨⟨⟨bs_0, bs_1, bs_2, bs_3, bs_4, bs_5, -⟩, bs_l⟩, -, -, -⟩ := E1.out.now
      go_wp2_with fail
      clear bs_0 bs_1 bs_2 bs_3 bs_4 bs_5 bs_l
      refine (HF.out _ E1.out.now.2.1 E1.out.now.2.2.1).mono ?_
      rintro e w2 ⟨rfl, hb⟩
      have E2 := Lib.hid (E1.out.next hb)
      clear hb
      obtain ⟨⟨⟨bs_0, bs_1, bs_2, bs_3, bs_4, bs_5, -⟩, bs_l⟩, -, -, -⟩ := E2.out.now
      go_wp2
      go_ret2
      exact ⟨retP HV1.out, E2.out.now.2.2.2⟩
  · have HV : Hid (nxtV s key = (0, chkK s)) := Lib.hid (if_neg hk)
    have hne : (chkK s != 0) = true := by rw [bne_iff_ne]; exact hk
    generalize nxtV s key = V at *
    generalize chkK s = c at *
    clear hk R hT W
    unfold sval at *
    go_enter Tryd.func30, Tryd.ntmps30
    go_wp2_with fail
    rw [allocS_fold]
    generalize allocS w s h = w0 at *
    refine (HC.out _ E0.out.now.2.2.1).mono ?_
    rintro e w1 ⟨rfl, hb⟩
    have E1 := Lib.hid (E0.out.next hb)
    clear hb
    go_wp2
    go_ret2
    exact ⟨retP HV.out, E1.out.now.2.2.2⟩

set_option maxRecDepth 100000 in
set_option maxHeartbeats 4000000 in
theorem Find_any (s : Sl) (h : Hd) (key : Int) (w : World) (hT : Tab w) (W : s.Wf) (R : SRd w s h) :
    Calls Tryd.prog 38 #[sval s h, .int .i64 key] w fun e w' => e = .returned (.tuple #[.int .i64 (findV s key).1, .int .i64 (findV s key).2]) ∧ Below w.heap.size w w' := by
  have E0 := Lib.hid (((((St.below' (allocS_below w s h))).and (St.rd (R.next (allocS_below w s h)))).and ((St.tab hT).next (allocS_below w s h))).and (St.bs (allocS_bs w s h)))
  have HNX := Lib.hid (fun w1 (hT : Tab w1) (R : SRd w1 s h) => kNext_any s h key w1 hT W R)
  by_cases hk : (nxtV s key).2 = 0
  · obtain ⟨-, hlt, e⟩ := nxt_ok hk
    rw [e] at HNX
    have HV : Hid (findV s key = if s.ks.getD (fromN s key) 0 = key then ((fromN s key : Int), 0) else (0, 6)) := Lib.hid (by unfold findV; rw [if_pos hk, e]; simp)
    clear e hk R hT W
    generalize findV s key = V at *
    generalize fromN s key = r at *
    unfold sval at *
    go_enter Tryd.func38, Tryd.ntmps38
    go_wp2_with fail
    rw [allocS_fold]
    generalize allocS w s h = w0 at *
    refine (HNX.out _ E0.out.now.2.1 E0.out.now.2.2.1).mono ?_
    rintro e w1 ⟨rfl, hb⟩
    have E1 := Lib.hid (E0.out.next hb)
    clear hb
    obtain ⟨bk, ok, hak, -, ck⟩ := rd_at (E1.out.now.2.2.1).fk (i := r) hlt
    obtain ⟨⟨⟨bs_0, bs_1, bs_2, bs_3, bs_4, bs_5, -⟩, bs_l⟩, -, -, -⟩ := E1.out.now
    rw [hak] at bs_2
    clear hak
    generalize s.ks.getD r 0 = x at *
    by_cases hx : x = key
    · have HV1 : Hid (V = ((r : Int), 0)) := Lib.hid (by rw [HV.out, if_pos hx])
      have hb : (x != key) = false := by rw [bne_eq_false_iff_eq]; exact hx
      clear HV hx
      go_wp2
      go_ret2
      exact ⟨retP HV1.out, E1.out.now.2.2.2⟩
    · have HV1 : Hid (V = (0, 6)) := Lib.hid (by rw [HV.out, if_neg hx])
      have hb : (x != key) = true := by rw [bne_iff_ne]; exact hx
      clear HV hx
      go_wp2
      go_ret2
      exact ⟨retP HV1.out, E1.out.now.2.2.2⟩
  · have HV : Hid (findV s key = (0, (nxtV s key).2)) := Lib.hid (if_neg hk)
    generalize findV s key = V at *
    generalize nxtV s key = N at *
    obtain ⟨n1, n2⟩ := N
    dsimp only at *
    have hne : (n2 != 0) = true := by rw [bne_iff_ne]; exact hk
    clear hk R hT W
    unfold sval at *
    go_enter Tryd.func38, Tryd.ntmps38
    go_wp2_with fail
    rw [allocS_fold]
    generalize allocS w s h = w0 at *
    refine (HNX.out _ E0.out.now.2.1 E0.out.now.2.2.1).mono ?_
    rintro e w1 ⟨rfl, hb⟩
    have E1 := Lib.hid (E0.out.next hb)
    clear hb
    go_wp2
    go_ret2
    exact ⟨retP HV.out, E1.out.now.2.2.2⟩
end Go.Proofs.YthkhideonceibaaDoor.Seek

namespace Go.Proofs.YthkhideonceibaaDoor.Seek
open Go.RowKit Go.Shelf Go.Sort Go.Proofs.YthkhideonceibaaDoor Go.Proofs.YthkhideonceibaaDoor.Occ Go.Proofs.YthkhideonceibaaDoor.Slo
attribute [local go_sem] sval Oper.semAt_some

theorem bel_take (L : List (Int × Int)) (key : Int) (k : Nat) (h : k < L.length) : bel (L.take (k + 1)) key = bel (L.take k) key + if (L.getD k (0, 0)).1 < key then 1 else 0 := by
  unfold bel
  rw [List.take_succ_eq_append_getElem h, List.countP_append]
  simp [List.getD_eq_getElem?_getD, h]
set_option maxRecDepth 100000 in
set_option maxHeartbeats 4000000 in
theorem Rising_any (al : Option Addr) (cl : Nat) (L : List (Int × Int)) (w : World) (hr : Rd2 w al L) (hl : L.length ≤ 1000000) :
    Calls Tryd.prog 70 #[.slice al L.length cl] w fun e w' => e = .returned (.bool (riseB L)) ∧ Below w.heap.size w w' := by
  have E0 := Lib.hid (((St.below w)).and (St.rd2 hr))
  go_enter Tryd.func70, Tryd.ntmps70
  go_wp2
  go_loopw [3] (fun i wr => ∃ k : Nat, k ≤ L.length ∧ i = .int .i64 ((k + 1 : Nat) : Int) ∧ (∀ j, j + 1 < k + 1 → j + 1 < L.length → (L.getD j (0, 0)).1 < (L.getD (j + 1) (0, 0)).1) ∧ Below w.heap.size w wr) (fun i _ => L.length - (intOf i).toNat)
  case atStart => exact ⟨0, Nat.zero_le _, rfl, fun j hj => by omega, Below.refl _ _⟩
  case round =>
    obtain ⟨k, hk, rfl, hall, hb⟩ := hrel
    have HA := Lib.hid hall
    have HB := Lib.hid hb
    have E1 := Lib.hid (E0.out.next hb)
    clear hall hb
    have EL := Lib.hid (E1.out.and (St.below' HB.out))
    have E2 := EL
    clear EL hr
    by_cases hlt : k + 1 < L.length
    · obtain ⟨bl, ol, rfl, -, -⟩ := Rd2.at E2.out.now.2.1 (Below.refl _ _) (Nat.le_refl _) hlt
      have HD : Hid (∀ j, j < L.length → ∀ W, Rd2 W (some (⟨bl, ol, Option.none⟩ : Addr)) L → ∃ b off, some (⟨bl, ol, Option.none⟩ : Addr) = some ⟨b, off, Option.none⟩ ∧ W.cell? ⟨b, off + j * 2, Option.none⟩ = some (.int .i64 (L.getD j (0, 0)).1) ∧ W.cell? ⟨b, off + j * 2 + 1, Option.none⟩ = some (.int .i64 (L.getD j (0, 0)).2)) := Lib.hid (fun j hj W R => Rd2.at R (Below.refl _ _) (Nat.le_refl _) hj)
      have hk0 : k < L.length := by omega
      have HK : Hid ((L.getD k (0, 0)).1 < (L.getD (k + 1) (0, 0)).1 → ∀ j, j + 1 < k + 1 + 1 → j + 1 < L.length → (L.getD j (0, 0)).1 < (L.getD (j + 1) (0, 0)).1) := Lib.hid (fun h i hi h2 => by
        by_cases hik : i = k
        · rw [hik]; exact h
        · exact HA.out i (by omega) h2)
      have HN : Hid (¬ (L.getD k (0, 0)).1 < (L.getD (k + 1) (0, 0)).1 → riseB L = false) := Lib.hid (fun h => riseB_no hlt h)
      have HD0 := Lib.hid (fun W R => HD.out k hk0 W R)
      have HD1 := Lib.hid (fun W R => HD.out (k + 1) hlt W R)
      clear HD
      generalize L.getD k (0, 0) = xk at *
      generalize L.getD (k + 1) (0, 0) = yk at *
      obtain ⟨x1, x2⟩ := xk
      obtain ⟨y1, y2⟩ := yk
      dsimp only at HD0 HD1 HK HN
      have d1 : IntKind.i64.wrap (((k + 1 : Nat) : Int) - 1) = (k : Int) := by rw [IntKind.wrap_i64]; omega
      go_wp2_with fail
      by_cases hxy : x1 < y1
      · have d2 : decide (y1 ≤ x1) = false := by simp; omega
        have HK1 := Lib.hid (HK.out hxy)
        clear HK HN hxy
        refine region_qb' wr wr.heap.size (Below.refl _ _) mixed' (by kernel_rfl) fun w3 hB hz => ?_
        have E3 := Lib.hid (E2.out.next hB)
        clear hB hz
        have EC := Lib.hid (fun d os => E3.out.next (below_regrown w3 d os))
        obtain ⟨bu, ou, e3, ca, cb⟩ := HD0.out _ E3.out.now.2.1
        cases e3
        obtain ⟨bv, ov, e4, ce, cf⟩ := HD1.out _ E3.out.now.2.1
        cases e4
        have qca := cell_regrown ca
        have qcb := cell_regrown cb
        have qce := cell_regrown ce
        have qcf := cell_regrown cf
        clear ca cb ce cf
        repeat (go_big_quiet_step (fail))
        refine wpQuiet_nil ?_
        rintro _ ⟨⟨dq, osq⟩, rfl⟩
        have E4 := Lib.hid (EC.out dq osq)
        generalize grow (redrawn w3 dq) osq = w4 at *
        clear EC qca qcb qce qcf
        go_wp2
        go_roundw
        case rel => exact ⟨k + 1, by omega, by go_num, HK1.out, E4.out.now.1⟩
        case measure => simp [intOf]; omega
      · have d2 : decide (y1 ≤ x1) = true := by simp; omega
        have HV := Lib.hid (HN.out (by omega))
        clear HK HN hxy
        refine region_qb' wr wr.heap.size (Below.refl _ _) mixed' (by kernel_rfl) fun w3 hB hz => ?_
        have E3 := Lib.hid (E2.out.next hB)
        clear hB hz
        have EC := Lib.hid (fun d os => E3.out.next (below_regrown w3 d os))
        obtain ⟨bu, ou, e3, ca, cb⟩ := HD0.out _ E3.out.now.2.1
        cases e3
        obtain ⟨bv, ov, e4, ce, cf⟩ := HD1.out _ E3.out.now.2.1
        cases e4
        have qca := cell_regrown ca
        have qcb := cell_regrown cb
        have qce := cell_regrown ce
        have qcf := cell_regrown cf
        clear ca cb ce cf
        repeat (go_big_quiet_step (fail))
        refine wpQuiet_nil ?_
        rintro _ ⟨⟨dq, osq⟩, rfl⟩
        have E4 := Lib.hid (EC.out dq osq)
        generalize grow (redrawn w3 dq) osq = w4 at *
        clear EC qca qcb qce qcf
        go_wp2
        go_ret
        exact ⟨by rw [HV.out]; rfl, E4.out.now.2.2⟩
    · have HV : Hid (riseB L = true) := Lib.hid (riseB_iff.2 fun i hi => HA.out i (by omega) hi)
      clear HA
      go_wp2
      go_ret
      exact ⟨by rw [HV.out]; rfl, E2.out.now.2.2⟩

set_option maxRecDepth 100000 in
set_option maxHeartbeats 4000000 in
theorem refCheckK_any (s : Sl) (h : Hd) (w : World) (W : s.Wf) (R : SRd w s h) :
    Calls Tryd.prog 54 #[sval s h] w fun e w' => e = .returned (.int .i64 (chkK s)) ∧ Below w.heap.size w w' := by
  have E0 := Lib.hid ((((St.below' (allocS_below w s h))).and (St.rd (R.next (allocS_below w s h)))).and (St.bs (allocS_bs w s h)))
  have HM := Lib.hid (fun w1 (R : SRd w1 s h) => sMay_any s h w1 W R)
  cases hok : okS s
  case false =>
    have HV := Lib.hid (chkK_no hok)
    rw [hok] at HM
    clear hok R W
    generalize chkK s = V at *
    unfold sval at *
    go_enter Tryd.func54, Tryd.ntmps54
    go_wp2_with fail
    rw [allocS_fold]
    generalize allocS w s h = w0 at *
    refine (HM.out _ E0.out.now.2.1).mono ?_
    rintro e w1 ⟨rfl, hb⟩
    have E1 := Lib.hid (E0.out.next hb)
    clear hb
    go_wp2
    go_ret
    exact ⟨by rw [HV.out]; rfl, E1.out.now.2.2⟩
  case true =>
    have HV := Lib.hid (chkK_yes hok)
    have hsm := all_small hok
    obtain ⟨g, q, o⟩ := okS_iff.1 hok
    have HOF := Lib.hid (fun w1 (R : SRd w1 s h) => refOf_any s h 0 s.ks.length g q w1 W R o (Nat.zero_le _) (Nat.le_refl _))
    rw [show prs s 0 (s.ks.length - 0) = allP s from rfl] at HOF
    have HRI := Lib.hid (fun a c w1 (R : Rd2 w1 a (allP s)) => Rising_any a c (allP s) w1 R (by omega))
    rw [hok] at HM
    clear hok R W o hsm
    generalize chkK s = V at *
    generalize riseB (allP s) = RB at *
    generalize allP s = L at *
    unfold sval at *
    go_enter Tryd.func54, Tryd.ntmps54
    go_wp2_with fail
    rw [allocS_fold]
    generalize allocS w s h = w0 at *
    refine (HM.out _ E0.out.now.2.1).mono ?_
    rintro e w1 ⟨rfl, hb⟩
    have E1 := Lib.hid (E0.out.next hb)
    clear hb
    obtain ⟨⟨⟨bs_0, bs_1, bs_2, bs_3, bs_4, bs_5, -⟩, bs_l⟩, -, -⟩ := E1.out.now
    go_wp2_with fail
    clear bs_0 bs_1 bs_2 bs_3 bs_4 bs_5 bs_l
    refine (HOF.out _ E1.out.now.2.1).mono ?_
    rintro e w2 ⟨v, rfl, ho, hb⟩
    obtain ⟨al, cl, rfl, -, hr2, hcl, -⟩ := owns2_arg ho
    clear ho
    have E2 := Lib.hid ((E1.out.next hb).and (St.rd2 hr2))
    clear hb
    go_wp2_with fail
    refine (HRI.out al cl _ E2.out.now.1).mono ?_
    rintro e w3 ⟨rfl, hb⟩
    have E3 := Lib.hid (E2.out.next hb)
    clear hb
    cases RB
    · go_wp2
      go_ret
      exact ⟨by rw [HV.out]; rfl, E3.out.now.2.2.2⟩
    · go_wp2
      go_ret
      exact ⟨by rw [HV.out]; rfl, E3.out.now.2.2.2⟩

end Go.Proofs.YthkhideonceibaaDoor.Seek

namespace Go.Proofs.YthkhideonceibaaDoor.Span
open Go.RowKit Go.Shelf Go.Sort Go.Proofs.YthkhideonceibaaDoor Go.Proofs.YthkhideonceibaaDoor.Occ Go.Proofs.YthkhideonceibaaDoor.Slo Go.Proofs.YthkhideonceibaaDoor.Seek

def ceilV (s : Sl) (key : Int) : (Int × Int) × Int := if chkK s = 0 then (if bel (allP s) key < (allP s).length then ((allP s).getD (bel (allP s) key) (0, 0), 0) else ((0, 0), 6)) else ((0, 0), chkK s)
def floorL (l : List (Int × Int)) (key : Int) : (Int × Int) × Int :=
  if bel l key < l.length ∧ (l.getD (bel l key) (0, 0)).1 = key then (l.getD (bel l key) (0, 0), 0) else if bel l key = 0 then ((0, 0), 6) else (l.getD (bel l key - 1) (0, 0), 0)
def floorV (s : Sl) (key : Int) : (Int × Int) × Int := if chkK s = 0 then floorL (allP s) key else ((0, 0), chkK s)
def minV (s : Sl) : (Int × Int) × Int := if chkK s = 0 then (if (allP s).length = 0 then ((0, 0), 6) else ((allP s).getD 0 (0, 0), 0)) else ((0, 0), chkK s)
def maxV (s : Sl) : (Int × Int) × Int := if chkK s = 0 then (if (allP s).length = 0 then ((0, 0), 6) else ((allP s).getD ((allP s).length - 1) (0, 0), 0)) else ((0, 0), chkK s)
def selV (s : Sl) (k : Int) : (Int × Int) × Int := if chkK s = 0 then (if 0 ≤ k ∧ k < ((allP s).length : Int) then ((allP s).getD k.toNat (0, 0), 0) else ((0, 0), 290)) else ((0, 0), chkK s)
def runL (l : List (Int × Int)) (a b : Int) : List (Int × Int) := l.filter (fun p => decide (a ≤ p.1) && decide (p.1 ≤ b))
def scanV (s : Sl) (a b n : Int) : List (Int × Int) × Int := if chkK s ≠ 0 then ([], chkK s) else if n < 0 ∨ 1000 < n then ([], 2) else ((runL (allP s) a b).take n.toNat, 0)

/-- A slot's pair, by its number among the occupied ones. -/
theorem pair_num (s : Sl) {i : Nat} (h : i < (allP s).length) : pairAt s ((slotsL s).getD i 0) = (allP s).getD i (0, 0) := (allP_getD s (by rw [← allP_length]; exact h)).symm
theorem slot_lt (s : Sl) {i : Nat} (h : i < (allP s).length) : (slotsL s).getD i 0 < s.ks.length := (slots_mem s (by rw [← allP_length]; exact h)).1

/-- The greatest key up to one, looked for from the end. -/
theorem floor_at {l : List (Int × Int)} (hr : riseB l = true) (key : Int) {i : Nat} (hi : i < l.length) (h1 : (l.getD i (0, 0)).1 ≤ key) (h2 : ∀ j, i < j → j < l.length → key < (l.getD j (0, 0)).1) : floorL l key = (l.getD i (0, 0), 0) := by
  have hb := bel_iff hr key hi
  unfold floorL
  by_cases he : (l.getD i (0, 0)).1 = key
  · have hbi : bel l key = i := by
      have h3 : ¬ i < bel l key := fun g => by have := hb.2 g; omega
      rcases Nat.lt_or_ge (bel l key) i with g | g
      · have h4 := rise_lt hr i (bel l key) g hi
        have h5 := (bel_iff hr key (i := bel l key) (by omega)).1 (by omega)
        omega
      · omega
    rw [hbi, if_pos ⟨hi, he⟩]
  · have h3 : i < bel l key := hb.1 (by omega)
    have hbi : bel l key = i + 1 := by
      rcases Nat.lt_or_ge (i + 1) (bel l key) with g | g
      · have hle := bel_le l key
        have h4 := (bel_iff hr key (i := i + 1) (by omega)).2 g
        have h5 := h2 (i + 1) (by omega) (by omega)
        omega
      · omega
    rw [hbi, if_neg, if_neg (by omega), Nat.add_sub_cancel]
    rintro ⟨h4, h5⟩
    have := h2 (i + 1) (by omega) h4
    omega
theorem floor_none {l : List (Int × Int)} (hr : riseB l = true) (key : Int) (h : ∀ j, j < l.length → key < (l.getD j (0, 0)).1) : floorL l key = ((0, 0), 6) := by
  have hb : bel l key = 0 := by
    rcases Nat.eq_zero_or_pos (bel l key) with g | g
    · exact g
    · have hle := bel_le l key
      have h1 := (bel_iff hr key (i := 0) (by omega)).2 g
      have h2 := h 0 (by omega)
      omega
  unfold floorL
  rw [hb, if_neg, if_pos rfl]
  rintro ⟨h1, h2⟩
  have := h 0 h1
  omega
/-- What stands from a number on, as long as keys are not above one. -/
theorem run_drop {l : List (Int × Int)} (hr : riseB l = true) (a b : Int) : runL l a b = (l.drop (bel l a)).takeWhile (fun p => decide (p.1 ≤ b)) := by
  induction l with
  | nil => rfl
  | cons p l ih =>
    have hr' : riseB l = true := riseB_iff.2 fun j hj => by
      have := riseB_iff.1 hr (j + 1) (by simp; omega)
      simpa using this
    have hall : ∀ q ∈ l, p.1 < q.1 := fun q hq => by
      obtain ⟨j, hj, rfl⟩ := List.getElem_of_mem hq
      have := rise_lt hr (j + 1) 0 (by omega) (by simp; omega)
      simpa [List.getD_eq_getElem?_getD, hj] using this
    by_cases h1 : p.1 < a
    · have e : bel (p :: l) a = bel l a + 1 := by unfold bel; rw [List.countP_cons]; simp [h1]
      rw [e, List.drop_succ_cons, ← ih hr']
      unfold runL
      rw [List.filter_cons]
      have h2 : ¬ a ≤ p.1 := by omega
      simp [h2]
    · have hz : bel l a = 0 := by
        unfold bel
        rw [List.countP_eq_zero]
        intro q hq
        have := hall q hq
        simp; omega
      have e : bel (p :: l) a = 0 := by unfold bel at hz ⊢; rw [List.countP_cons, hz]; simp [h1]
      rw [e, List.drop_zero, List.takeWhile_cons]
      have h2 : a ≤ p.1 := by omega
      have ih2 := ih hr'
      rw [hz, List.drop_zero] at ih2
      unfold runL at ih2 ⊢
      rw [List.filter_cons]
      by_cases h3 : p.1 ≤ b
      · simp only [h2, h3, decide_true, Bool.and_self, if_true]
        rw [ih2]
      · simp only [h2, h3, decide_true, decide_false, Bool.and_false]
        rw [if_neg (by simp), if_neg (by simp)]
        rw [List.filter_eq_nil_iff]
        intro q hq
        have := hall q hq
        simp; omega
end Go.Proofs.YthkhideonceibaaDoor.Span
