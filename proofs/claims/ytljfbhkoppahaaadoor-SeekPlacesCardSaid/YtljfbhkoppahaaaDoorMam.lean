/- Contracts of the document's answer for package seek. -/
import Derived.Test.YtljfbhkoppahaaaDoorMal
set_option linter.unusedSimpArgs false
set_option linter.unusedVariables false
namespace Go.Proofs.YtljfbhkoppahaaaDoor.Seek
open Go.RowKit Go.Shelf Go.Sort Go.Proofs.YtljfbhkoppahaaaDoor Go.Proofs.YtljfbhkoppahaaaDoor.Occ Go.Proofs.YtljfbhkoppahaaaDoor.Slo
attribute [local go_sem] sval Oper.semAt_some

theorem bel_take (L : List (Int × Int)) (key : Int) (k : Nat) (h : k < L.length) : bel (L.take (k + 1)) key = bel (L.take k) key + if (L.getD k (0, 0)).1 < key then 1 else 0 := by
  unfold bel
  rw [List.take_succ_eq_append_getElem h, List.countP_append]
  simp [List.getD_eq_getElem?_getD, h]
set_option maxRecDepth 100000 in
set_option maxHeartbeats 4000000 in
theorem Rising_any (al : Option Addr) (cl : Nat) (L : List (Int × Int)) (w : World) (hr : Rd2 w al L) (hl : L.length ≤ 1000000) :
    Calls Tryd.prog 33 #[.slice al L.length cl] w fun e w' => e = .returned (.bool (riseB L)) ∧ Below w.heap.size w w' := by
  have E0 := Lib.hid (((St.below w)).and (St.rd2 hr))
  go_enter Tryd.func33, Tryd.ntmps33
  go_wp2
  go_loopw [3] (fun i wr => ∃ k : Nat, k ≤ L.length ∧ i = .int .i64 ((k + 1 : Nat) : Int) ∧ (∀ j, j + 1 < k + 1 → j + 1 < L.length → (L.getD j (0, 0)).1 < (L.getD (j + 1) (0, 0)).1) ∧ Below w.heap.size w wr) (fun i _ => L.length - (intOf i).toNat)
  case atStart => exact ⟨0, Nat.zero_le _, rfl, fun j hj => by omega, Below.refl _ _⟩
  case round =>
    obtain ⟨k, hk, rfl, hall, hb⟩ := hrel
    have HA := Lib.hid hall
    have HB := Lib.hid hb
    have E1 := Lib.hid (E0.out.next hb)
    clear hall hb
    have EL := Lib.hid (E1.out.and (St.below' HB.out))
    have E2 := EL
    clear EL hr
    by_cases hlt : k + 1 < L.length
    · obtain ⟨bl, ol, rfl, -, -⟩ := Rd2.at E2.out.now.2.1 (Below.refl _ _) (Nat.le_refl _) hlt
      have HD : Hid (∀ j, j < L.length → ∀ W, Rd2 W (some (⟨bl, ol, Option.none⟩ : Addr)) L → ∃ b off, some (⟨bl, ol, Option.none⟩ : Addr) = some ⟨b, off, Option.none⟩ ∧ W.cell? ⟨b, off + j * 2, Option.none⟩ = some (.int .i64 (L.getD j (0, 0)).1) ∧ W.cell? ⟨b, off + j * 2 + 1, Option.none⟩ = some (.int .i64 (L.getD j (0, 0)).2)) := Lib.hid (fun j hj W R => Rd2.at R (Below.refl _ _) (Nat.le_refl _) hj)
      have hk0 : k < L.length := by omega
      have HK : Hid ((L.getD k (0, 0)).1 < (L.getD (k + 1) (0, 0)).1 → ∀ j, j + 1 < k + 1 + 1 → j + 1 < L.length → (L.getD j (0, 0)).1 < (L.getD (j + 1) (0, 0)).1) := Lib.hid (fun h i hi h2 => by
        by_cases hik : i = k
        · rw [hik]; exact h
        · exact HA.out i (by omega) h2)
      have HN : Hid (¬ (L.getD k (0, 0)).1 < (L.getD (k + 1) (0, 0)).1 → riseB L = false) := Lib.hid (fun h => riseB_no hlt h)
      have HD0 := Lib.hid (fun W R => HD.out k hk0 W R)
      have HD1 := Lib.hid (fun W R => HD.out (k + 1) hlt W R)
      clear HD
      generalize L.getD k (0, 0) = xk at *
      generalize L.getD (k + 1) (0, 0) = yk at *
      obtain ⟨x1, x2⟩ := xk
      obtain ⟨y1, y2⟩ := yk
      dsimp only at HD0 HD1 HK HN
      have d1 : IntKind.i64.wrap (((k + 1 : Nat) : Int) - 1) = (k : Int) := by rw [IntKind.wrap_i64]; omega
      go_wp2_with fail
      by_cases hxy : x1 < y1
      · have d2 : decide (y1 ≤ x1) = false := by simp; omega
        have HK1 := Lib.hid (HK.out hxy)
        clear HK HN hxy
        refine region_qb' wr wr.heap.size (Below.refl _ _) mixed' (by kernel_rfl) fun w3 hB hz => ?_
        have E3 := Lib.hid (E2.out.next hB)
        clear hB hz
        have EC := Lib.hid (fun d os => E3.out.next (below_regrown w3 d os))
        obtain ⟨bu, ou, e3, ca, cb⟩ := HD0.out _ E3.out.now.2.1
        cases e3
        obtain ⟨bv, ov, e4, ce, cf⟩ := HD1.out _ E3.out.now.2.1
        cases e4
        have qca := cell_regrown ca
        have qcb := cell_regrown cb
        have qce := cell_regrown ce
        have qcf := cell_regrown cf
        clear ca cb ce cf
        repeat (go_big_quiet_step (fail))
        refine wpQuiet_nil ?_
        rintro _ ⟨⟨dq, osq⟩, rfl⟩
        have E4 := Lib.hid (EC.out dq osq)
        generalize grow (redrawn w3 dq) osq = w4 at *
        clear EC qca qcb qce qcf
        go_wp2
        go_roundw
        case rel => exact ⟨k + 1, by omega, by go_num, HK1.out, E4.out.now.1⟩
        case measure => simp [intOf]; omega
      · have d2 : decide (y1 ≤ x1) = true := by simp; omega
        have HV := Lib.hid (HN.out (by omega))
        clear HK HN hxy
        refine region_qb' wr wr.heap.size (Below.refl _ _) mixed' (by kernel_rfl) fun w3 hB hz => ?_
        have E3 := Lib.hid (E2.out.next hB)
        clear hB hz
        have EC := Lib.hid (fun d os => E3.out.next (below_regrown w3 d os))
        obtain ⟨bu, ou, e3, ca, cb⟩ := HD0.out _ E3.out.now.2.1
        cases e3
        obtain ⟨bv, ov, e4, ce, cf⟩ := HD1.out _ E3.out.now.2.1
        cases e4
        have qca := cell_regrown ca
        have qcb := cell_regrown cb
        have qce := cell_regrown ce
        have qcf := cell_regrown cf
        clear ca cb ce cf
        repeat (go_big_quiet_step (fail))
        refine wpQuiet_nil ?_
        rintro _ ⟨⟨dq, osq⟩, rfl⟩
        have E4 := Lib.hid (EC.out dq osq)
        generalize grow (redrawn w3 dq) osq = w4 at *
        clear EC qca qcb qce qcf
        go_wp2
        go_ret
        exact ⟨by rw [HV.out]; rfl, E4.out.now.2.2⟩
    · have HV : Hid (riseB L = true) := Lib.hid (riseB_iff.2 fun i hi => HA.out i (by omega) hi)
      clear HA
      go_wp2
      go_ret
      exact ⟨by rw [HV.out]; rfl, E2.out.now.2.2⟩

set_option maxRecDepth 100000 in
set_option maxHeartbeats 4000000 in
theorem bel_any (al : Option Addr) (cl : Nat) (L : List (Int × Int)) (key : Int) (w : World) (hr : Rd2 w al L) (hl : L.length ≤ 1000000) :
    Calls Tryd.prog 28 #[.slice al L.length cl, .int .i64 key] w fun e w' => e = .returned (.int .i64 (bel L key)) ∧ w = w' := by
  go_enter Tryd.func28, Tryd.ntmps28
  go_wp2
  go_loop [5, 6] (fun n i => ∃ k : Nat, k ≤ L.length ∧ i = .int .i64 k ∧ n = .int .i64 ((bel (L.take k) key : Nat) : Int)) (fun _ i => L.length - (intOf i).toNat)
  case atStart => exact ⟨0, Nat.zero_le _, rfl, rfl⟩
  case round =>
    obtain ⟨k, hk, rfl, rfl⟩ := hrel
    by_cases hlt : k < L.length
    · obtain ⟨bl, ol, rfl, ca, cb⟩ := Rd2.at hr (Below.refl _ _) (Nat.le_refl _) hlt
      have HT := Lib.hid (bel_take L key k hlt)
      have hle := bel_le (L.take k) key
      rw [List.length_take] at hle
      generalize hc1 : bel (L.take (k + 1)) key = c1 at *
      have HC1 := Lib.hid hc1
      clear hc1
      generalize bel (L.take k) key = c0 at *
      generalize L.getD k (0, 0) = xk at *
      obtain ⟨x1, x2⟩ := xk
      dsimp only at ca cb HT
      clear hr
      by_cases hx : x1 < key
      · have HT1 : Hid (c1 = c0 + 1) := Lib.hid (by rw [HT.out, if_pos hx])
        clear HT
        go_wp2
        go_round
        case rel => exact ⟨k + 1, by omega, by go_num, by rw [HC1.out, HT1.out]; go_num⟩
        case measure => simp [intOf]; omega
      · have HT1 : Hid (c1 = c0) := Lib.hid (by rw [HT.out, if_neg hx]; rfl)
        clear HT
        go_wp2
        go_round
        case rel => exact ⟨k + 1, by omega, by go_num, by rw [HC1.out, HT1.out]⟩
        case measure => simp [intOf]; omega
    · obtain rfl : k = L.length := by omega
      have HT : Hid (L.take L.length = L) := Lib.hid (List.take_of_length_le (Nat.le_refl _))
      clear hr
      go_wp2
      go_ret
      exact ⟨by rw [← HT.out]; simp, rfl⟩

set_option maxRecDepth 100000 in
set_option maxHeartbeats 4000000 in
theorem refCheckK_any (s : Sl) (h : Hd) (w : World) (W : s.Wf) (R : SRd w s h) :
    Calls Tryd.prog 18 #[sval s h] w fun e w' => e = .returned (.int .i64 (chkK s)) ∧ Below w.heap.size w w' := by
  have E0 := Lib.hid ((((St.below' (allocS_below w s h))).and (St.rd (R.next (allocS_below w s h)))).and (St.bs (allocS_bs w s h)))
  have HM := Lib.hid (fun w1 (R : SRd w1 s h) => sMay_any s h w1 W R)
  cases hok : okS s
  case false =>
    have HV := Lib.hid (chkK_no hok)
    rw [hok] at HM
    clear hok R W
    generalize chkK s = V at *
    unfold sval at *
    go_enter Tryd.func18, Tryd.ntmps18
    go_wp2_with fail
    rw [allocS_fold]
    generalize allocS w s h = w0 at *
    refine (HM.out _ E0.out.now.2.1).mono ?_
    rintro e w1 ⟨rfl, hb⟩
    have E1 := Lib.hid (E0.out.next hb)
    clear hb
    go_wp2
    go_ret
    exact ⟨by rw [HV.out]; rfl, E1.out.now.2.2⟩
  case true =>
    have HV := Lib.hid (chkK_yes hok)
    have hsm := all_small hok
    obtain ⟨g, q, o⟩ := okS_iff.1 hok
    have HOF := Lib.hid (fun w1 (R : SRd w1 s h) => refOf_any s h 0 s.ks.length g q w1 W R o (Nat.zero_le _) (Nat.le_refl _))
    rw [show prs s 0 (s.ks.length - 0) = allP s from rfl] at HOF
    have HRI := Lib.hid (fun a c w1 (R : Rd2 w1 a (allP s)) => Rising_any a c (allP s) w1 R (by omega))
    rw [hok] at HM
    clear hok R W o hsm
    generalize chkK s = V at *
    generalize riseB (allP s) = RB at *
    generalize allP s = L at *
    unfold sval at *
    go_enter Tryd.func18, Tryd.ntmps18
    go_wp2_with fail
    rw [allocS_fold]
    generalize allocS w s h = w0 at *
    refine (HM.out _ E0.out.now.2.1).mono ?_
    rintro e w1 ⟨rfl, hb⟩
    have E1 := Lib.hid (E0.out.next hb)
    clear hb
    obtain ⟨⟨⟨bs_0, bs_1, bs_2, bs_3, bs_4, bs_5, -⟩, bs_l⟩, -, -⟩ := E1.out.now
    go_wp2_with fail
    clear bs_0 bs_1 bs_2 bs_3 bs_4 bs_5 bs_l
    refine (HOF.out _ E1.out.now.2.1).mono ?_
    rintro e w2 ⟨v, rfl, ho, hb⟩
    obtain ⟨al, cl, rfl, -, hr2, hcl, -⟩ := owns2_arg ho
    clear ho
    have E2 := Lib.hid ((E1.out.next hb).and (St.rd2 hr2))
    clear hb
    go_wp2_with fail
    refine (HRI.out al cl _ E2.out.now.1).mono ?_
    rintro e w3 ⟨rfl, hb⟩
    have E3 := Lib.hid (E2.out.next hb)
    clear hb
    cases RB
    · go_wp2
      go_ret
      exact ⟨by rw [HV.out]; rfl, E3.out.now.2.2.2⟩
    · go_wp2
      go_ret
      exact ⟨by rw [HV.out]; rfl, E3.out.now.2.2.2⟩

set_option maxRecDepth 100000 in
set_option maxHeartbeats 8000000 in
theorem refRankK_any (s : Sl) (h : Hd) (key : Int) (w : World) (W : s.Wf) (R : SRd w s h) :
    Calls Tryd.prog 10 #[sval s h, .int .i64 key] w fun e w' => e = .returned (.tuple #[.int .i64 (rankV s key).1, .int .i64 (rankV s key).2]) ∧ Below w.heap.size w w' := by
  have E0 := Lib.hid ((((St.below' (allocS_below w s h))).and (St.rd (R.next (allocS_below w s h)))).and (St.bs (allocS_bs w s h)))
  have HC := Lib.hid (fun w1 (R : SRd w1 s h) => refCheckK_any s h w1 W R)
  by_cases hk : chkK s = 0
  · obtain ⟨hok, hri⟩ := chkK_ok hk
    have hsm := all_small hok
    obtain ⟨g, q, o⟩ := okS_iff.1 hok
    have HOF := Lib.hid (fun w1 (R : SRd w1 s h) => refOf_any s h 0 s.ks.length g q w1 W R o (Nat.zero_le _) (Nat.le_refl _))
    rw [show prs s 0 (s.ks.length - 0) = allP s from rfl] at HOF
    have HBE := Lib.hid (fun a c w1 (R : Rd2 w1 a (allP s)) => bel_any a c (allP s) key w1 R (by omega))
    have HV : Hid (rankV s key = ((bel (allP s) key : Int), 0)) := Lib.hid (if_pos hk)
    rw [hk] at HC
    clear hok hri R W o hsm hk
    generalize rankV s key = V at *
    generalize bel (allP s) key = n at *
    generalize allP s = L at *
    unfold sval at *
    go_enter Tryd.func10, Tryd.ntmps10
    go_wp2_with fail
    rw [allocS_fold]
    generalize allocS w s h = w0 at *
    refine (HC.out _ E0.out.now.2.1).mono ?_
    rintro e w1 ⟨rfl, hb⟩
    have E1 := Lib.hid (E0.out.next hb)
    clear hb
    obtain ⟨⟨⟨bs_0, bs_1, bs_2, bs_3, bs_4, bs_5, -⟩, bs_l⟩, -, -⟩ := E1.out.now
    go_wp2_with fail
    clear bs_0 bs_1 bs_2 bs_3 bs_4 bs_5 bs_l
    refine (HOF.out _ E1.out.now.2.1).mono ?_
    rintro e w2 ⟨v, rfl, ho, hb⟩
    obtain ⟨al, cl, rfl, -, hr2, hcl, -⟩ := owns2_arg ho
    clear ho
    have E2 := Lib.hid ((E1.out.next hb).and (St.rd2 hr2))
    clear hb
    go_wp2_with fail
    refine (HBE.out al cl _ E2.out.now.1).mono ?_
    rintro e w' ⟨rfl, rfl⟩
    go_wp2
    go_ret2
    exact ⟨retP HV.out, E2.out.now.2.2.2⟩
  · have HV : Hid (rankV s key = (0, chkK s)) := Lib.hid (if_neg hk)
    have hne : (chkK s != 0) = true := by rw [bne_iff_ne]; exact hk
    generalize rankV s key = V at *
    generalize chkK s = c at *
    clear hk R W
    unfold sval at *
    go_enter Tryd.func10, Tryd.ntmps10
    go_wp2_with fail
    rw [allocS_fold]
    generalize allocS w s h = w0 at *
    refine (HC.out _ E0.out.now.2.1).mono ?_
    rintro e w1 ⟨rfl, hb⟩
    have E1 := Lib.hid (E0.out.next hb)
    clear hb
    go_wp2
    go_ret2
    exact ⟨retP HV.out, E1.out.now.2.2⟩

set_option maxRecDepth 100000 in
set_option maxHeartbeats 8000000 in
theorem refNextK_any (s : Sl) (h : Hd) (key : Int) (w : World) (W : s.Wf) (R : SRd w s h) :
    Calls Tryd.prog 14 #[sval s h, .int .i64 key] w fun e w' => e = .returned (.tuple #[.int .i64 (nxtV s key).1, .int .i64 (nxtV s key).2]) ∧ Below w.heap.size w w' := by
  have E0 := Lib.hid ((((St.below' (allocS_below w s h))).and (St.rd (R.next (allocS_below w s h)))).and (St.bs (allocS_bs w s h)))
  have HC := Lib.hid (fun w1 (R : SRd w1 s h) => refCheckK_any s h w1 W R)
  by_cases hk : chkK s = 0
  · obtain ⟨hok, hri⟩ := chkK_ok hk
    obtain ⟨g, q, o⟩ := okS_iff.1 hok
    have hin := o.w
    have hn1 := o.n1
    have HPL := Lib.hid (fun w1 (R : SRd w1 s h) => Places_any h.aw h.cw s.ws 0 s.ks.length w1 W.u R.fw W.lw (Nat.zero_le _) (by omega))
    rw [show occs s.ws 0 (s.ks.length - 0) = slotsL s from rfl] at HPL
    have HQ : Hid (∀ k, k < (slotsL s).length → (slotsL s).getD k 0 < s.ks.length ∧ (s.ks.getD ((slotsL s).getD k 0) 0 < key ↔ k < bel (allP s) key)) := Lib.hid (fun k hk2 => ⟨(slots_mem s hk2).1, by
      have h := bel_iff hri key (i := k) (by rw [allP_length]; exact hk2)
      rwa [allP_getD s hk2] at h⟩)
    have HV : Hid (nxtV s key = if bel (allP s) key < (slotsL s).length then ((((slotsL s).getD (bel (allP s) key) 0 : Nat) : Int), 0) else (0, 6)) := Lib.hid (if_pos hk)
    have hbl := bel_le (allP s) key
    rw [allP_length] at hbl
    have hll : (slotsL s).length ≤ 65536 := by have := occs_length s.ws 0 s.ks.length; have e : slotsL s = occs s.ws 0 s.ks.length := rfl; rw [e]; omega
    rw [hk] at HC
    clear hok hri R W o hk hin
    generalize nxtV s key = V at *
    generalize bel (allP s) key = n at *
    generalize slotsL s = L at *
    unfold sval at *
    go_enter Tryd.func14, Tryd.ntmps14
    go_wp2_with fail
    rw [allocS_fold]
    generalize allocS w s h = w0 at *
    refine (HC.out _ E0.out.now.2.1).mono ?_
    rintro e w1 ⟨rfl, hb⟩
    have E1 := Lib.hid (E0.out.next hb)
    clear hb
    obtain ⟨⟨⟨bs_0, bs_1, bs_2, bs_3, bs_4, bs_5, -⟩, bs_l⟩, -, -⟩ := E1.out.now
    go_wp2_with fail
    clear bs_0 bs_1 bs_2 bs_3 bs_4 bs_5 bs_l
    refine (HPL.out _ E1.out.now.2.1).mono ?_
    rintro e w2 ⟨v, rfl, ho, hb⟩
    obtain ⟨al, cl, rfl, hr2⟩ := places_read ho
    clear ho
    have E2 := Lib.hid ((E1.out.next hb).and (St.rdk hr2))
    clear hb
    clear HC HPL
    go_wp2
    go_loopw [8] (fun i wr => ∃ k : Nat, k ≤ L.length ∧ k ≤ n ∧ i = .int .i64 k ∧ Below w2.heap.size w2 wr) (fun i _ => L.length - (intOf i).toNat)
    case atStart => exact ⟨0, Nat.zero_le _, Nat.zero_le _, rfl, Below.refl _ _⟩
    case round =>
      obtain ⟨k, hk, hkn, rfl, hb⟩ := hrel
      have HB := Lib.hid hb
      have E3 := Lib.hid (E2.out.next hb)
      clear hb
      have EL := Lib.hid (E3.out.and (St.below' HB.out))
      have E4 := EL
      clear EL HB
      by_cases hlt : k < L.length
      · obtain ⟨hx, hq⟩ := HQ.out k hlt
        have hlz : k < (zs L).length := by rw [zs_length]; exact hlt
        obtain ⟨bl, ol, rfl, -, -⟩ := rd_at E4.out.now.2.1 hlz
        obtain ⟨bk, ok, hak, -, -⟩ := rd_at (E4.out.now.2.2.2.1).fk hx
        have HL1 := Lib.hid (fun W (R : Rd .i64 W (some ⟨bl, ol, Option.none⟩) (zs L)) => rd_at R hlz)
        rw [zs_getD] at HL1
        have HL2 := Lib.hid (fun W (R : SRd W s h) => rd_at R.fk hx)
        rw [hak] at HL2
        have HVK : Hid (k = n → V = (((L.getD k 0 : Nat) : Int), 0)) := Lib.hid (fun e => by rw [HV.out, if_pos (by omega), ← e])
        have HQ2 := Lib.hid hq
        clear hq
        generalize L.getD k 0 = x at *
        generalize s.ks.getD x 0 = y at *
        have hx2 : x < s.ks.length := hx
        go_wp2_with fail
        by_cases hy : y < key
        · have d2 : decide (key ≤ y) = false := by simp; omega
          have hkn1 : k + 1 ≤ n := HQ2.out.1 hy
          clear HQ2 hy
          have EK := Lib.hid hak
          clear hak
          refine region_qb' wr wr.heap.size (Below.refl _ _) mixed' (by kernel_rfl) fun w5 hB hz => ?_
          have E5 := Lib.hid (E4.out.next hB)
          clear hB hz
          have EC := Lib.hid (fun d os => E5.out.next (below_regrown w5 d os))
          obtain ⟨-, -, ⟨⟨bs_0, bs_1, bs_2, bs_3, bs_4, bs_5, -⟩, bs_l⟩, -, -⟩ := E5.out.now
          obtain ⟨bu, ou, e3, -, ca⟩ := HL1.out _ E5.out.now.2.1
          cases e3
          obtain ⟨bv, ov, e4, -, ce⟩ := HL2.out _ E5.out.now.2.2.2.1
          cases e4
          rw [EK.out] at bs_2
          have qbs_0 := cell_regrown bs_0
          have qbs_1 := cell_regrown bs_1
          have qbs_2 := cell_regrown bs_2
          have qbs_3 := cell_regrown bs_3
          have qbs_4 := cell_regrown bs_4
          have qbs_5 := cell_regrown bs_5
          have qca := cell_regrown ca
          have qce := cell_regrown ce
          clear bs_0 bs_1 bs_2 bs_3 bs_4 bs_5 bs_l
          clear ca ce
          repeat (go_big_quiet_step (fail))
          refine wpQuiet_nil ?_
          rintro _ ⟨⟨dq, osq⟩, rfl⟩
          have E6 := Lib.hid (EC.out dq osq)
          generalize grow (redrawn w5 dq) osq = w6 at *
          clear EC qbs_0 qbs_1 qbs_2 qbs_3 qbs_4 qbs_5 qca qce
          go_wp2
          go_roundw
          case rel => exact ⟨k + 1, by omega, hkn1, by go_num, E6.out.now.1⟩
          case measure => simp [intOf]; omega
        · have d2 : decide (key ≤ y) = true := by simp; omega
          have HV1 := Lib.hid (HVK.out (by have := mt HQ2.out.2 hy; omega))
          clear HQ2 hy HVK
          have EK := Lib.hid hak
          clear hak
          refine region_qb' wr wr.heap.size (Below.refl _ _) mixed' (by kernel_rfl) fun w5 hB hz => ?_
          have E5 := Lib.hid (E4.out.next hB)
          clear hB hz
          have EC := Lib.hid (fun d os => E5.out.next (below_regrown w5 d os))
          obtain ⟨-, -, ⟨⟨bs_0, bs_1, bs_2, bs_3, bs_4, bs_5, -⟩, bs_l⟩, -, -⟩ := E5.out.now
          obtain ⟨bu, ou, e3, -, ca⟩ := HL1.out _ E5.out.now.2.1
          cases e3
          obtain ⟨bv, ov, e4, -, ce⟩ := HL2.out _ E5.out.now.2.2.2.1
          cases e4
          rw [EK.out] at bs_2
          have qbs_0 := cell_regrown bs_0
          have qbs_1 := cell_regrown bs_1
          have qbs_2 := cell_regrown bs_2
          have qbs_3 := cell_regrown bs_3
          have qbs_4 := cell_regrown bs_4
          have qbs_5 := cell_regrown bs_5
          have qca := cell_regrown ca
          have qce := cell_regrown ce
          clear bs_0 bs_1 bs_2 bs_3 bs_4 bs_5 bs_l
          clear ca ce
          repeat (go_big_quiet_step (fail))
          refine wpQuiet_nil ?_
          rintro _ ⟨⟨dq, osq⟩, rfl⟩
          have E6 := Lib.hid (EC.out dq osq)
          generalize grow (redrawn w5 dq) osq = w6 at *
          clear EC qbs_0 qbs_1 qbs_2 qbs_3 qbs_4 qbs_5 qca qce
          obtain ⟨bu, ou, e3, -, ca⟩ := HL1.out _ E6.out.now.2.1
          cases e3
          go_wp2
          go_ret2
          exact ⟨retP HV1.out, E6.out.now.2.2.2.2⟩
      · have HV1 : Hid (V = (0, 6)) := Lib.hid (by rw [HV.out, if_neg (by omega)])
        go_wp2
        go_ret2
        exact ⟨retP HV1.out, E4.out.now.2.2.2.2⟩
  · have HV : Hid (nxtV s key = (0, chkK s)) := Lib.hid (if_neg hk)
    have hne : (chkK s != 0) = true := by rw [bne_iff_ne]; exact hk
    generalize nxtV s key = V at *
    generalize chkK s = c at *
    clear hk R W
    unfold sval at *
    go_enter Tryd.func14, Tryd.ntmps14
    go_wp2_with fail
    rw [allocS_fold]
    generalize allocS w s h = w0 at *
    refine (HC.out _ E0.out.now.2.1).mono ?_
    rintro e w1 ⟨rfl, hb⟩
    have E1 := Lib.hid (E0.out.next hb)
    clear hb
    go_wp2
    go_ret2
    exact ⟨retP HV.out, E1.out.now.2.2⟩

set_option maxRecDepth 100000 in
set_option maxHeartbeats 8000000 in
theorem refFindK_any (s : Sl) (h : Hd) (key : Int) (w : World) (W : s.Wf) (R : SRd w s h) :
    Calls Tryd.prog 12 #[sval s h, .int .i64 key] w fun e w' => e = .returned (.tuple #[.int .i64 (findV s key).1, .int .i64 (findV s key).2]) ∧ Below w.heap.size w w' := by
  have E0 := Lib.hid ((((St.below' (allocS_below w s h))).and (St.rd (R.next (allocS_below w s h)))).and (St.bs (allocS_bs w s h)))
  have HNX := Lib.hid (fun w1 (R : SRd w1 s h) => refNextK_any s h key w1 W R)
  by_cases hk : (nxtV s key).2 = 0
  · obtain ⟨-, hlt, e⟩ := nxt_ok hk
    rw [e] at HNX
    have HV : Hid (findV s key = if s.ks.getD (fromN s key) 0 = key then ((fromN s key : Int), 0) else (0, 6)) := Lib.hid (by unfold findV; rw [if_pos hk, e]; simp)
    clear e hk R W
    generalize findV s key = V at *
    generalize fromN s key = r at *
    unfold sval at *
    go_enter Tryd.func12, Tryd.ntmps12
    go_wp2_with fail
    rw [allocS_fold]
    generalize allocS w s h = w0 at *
    refine (HNX.out _ E0.out.now.2.1).mono ?_
    rintro e w1 ⟨rfl, hb⟩
    have E1 := Lib.hid (E0.out.next hb)
    clear hb
    obtain ⟨bk, ok, hak, -, ck⟩ := rd_at (E1.out.now.2.1).fk (i := r) hlt
    obtain ⟨⟨⟨bs_0, bs_1, bs_2, bs_3, bs_4, bs_5, -⟩, bs_l⟩, -, -⟩ := E1.out.now
    rw [hak] at bs_2
    clear hak
    generalize s.ks.getD r 0 = x at *
    by_cases hx : x = key
    · have HV1 : Hid (V = ((r : Int), 0)) := Lib.hid (by rw [HV.out, if_pos hx])
      have hb : (x != key) = false := by rw [bne_eq_false_iff_eq]; exact hx
      clear HV hx
      go_wp2
      go_ret2
      exact ⟨retP HV1.out, E1.out.now.2.2⟩
    · have HV1 : Hid (V = (0, 6)) := Lib.hid (by rw [HV.out, if_neg hx])
      have hb : (x != key) = true := by rw [bne_iff_ne]; exact hx
      clear HV hx
      go_wp2
      go_ret2
      exact ⟨retP HV1.out, E1.out.now.2.2⟩
  · have HV : Hid (findV s key = nxtV s key) := Lib.hid (by unfold findV; rw [if_neg hk]; unfold nxtV at hk ⊢; split at hk <;> simp_all; split <;> simp_all)
    generalize findV s key = V at *
    generalize nxtV s key = N at *
    obtain ⟨n1, n2⟩ := N
    dsimp only at *
    have hne : (n2 == 0) = false := by rw [beq_eq_false_iff_ne]; exact hk
    clear hk R W
    unfold sval at *
    go_enter Tryd.func12, Tryd.ntmps12
    go_wp2_with fail
    rw [allocS_fold]
    generalize allocS w s h = w0 at *
    refine (HNX.out _ E0.out.now.2.1).mono ?_
    rintro e w1 ⟨rfl, hb⟩
    have E1 := Lib.hid (E0.out.next hb)
    clear hb
    go_wp2
    go_ret2
    exact ⟨retP HV.out, E1.out.now.2.2⟩

set_option maxRecDepth 100000 in
set_option maxHeartbeats 8000000 in
theorem refLastK_any (s : Sl) (h : Hd) (key : Int) (w : World) (W : s.Wf) (R : SRd w s h) :
    Calls Tryd.prog 16 #[sval s h, .int .i64 key] w fun e w' => e = .returned (.tuple #[.int .i64 (lasV s key).1, .int .i64 (lasV s key).2]) ∧ Below w.heap.size w w' := by
  have E0 := Lib.hid ((((St.below' (allocS_below w s h))).and (St.rd (R.next (allocS_below w s h)))).and (St.bs (allocS_bs w s h)))
  have HRK := Lib.hid (fun w1 (R : SRd w1 s h) => refRankK_any s h key w1 W R)
  by_cases hk : chkK s = 0
  · obtain ⟨hok, hri⟩ := chkK_ok hk
    obtain ⟨g, q, o⟩ := okS_iff.1 hok
    have hin := o.w
    have hn1 := o.n1
    have HPL := Lib.hid (fun w1 (R : SRd w1 s h) => Places_any h.aw h.cw s.ws 0 s.ks.length w1 W.u R.fw W.lw (Nat.zero_le _) (by omega))
    rw [show occs s.ws 0 (s.ks.length - 0) = slotsL s from rfl] at HPL
    have HV : Hid (lasV s key = if bel (allP s) key = 0 then (0, 6) else ((((slotsL s).getD (bel (allP s) key - 1) 0 : Nat) : Int), 0)) := Lib.hid (if_pos hk)
    rw [show rankV s key = ((bel (allP s) key : Int), 0) from if_pos hk] at HRK
    have hbl := bel_le (allP s) key
    rw [allP_length] at hbl
    have hll : (slotsL s).length ≤ 65536 := by have := occs_length s.ws 0 s.ks.length; have e : slotsL s = occs s.ws 0 s.ks.length := rfl; rw [e]; omega
    clear hok hri R W o hk hin
    generalize lasV s key = V at *
    generalize bel (allP s) key = n at *
    generalize slotsL s = L at *
    cases n with
    | zero =>
      have HV1 : Hid (V = (0, 6)) := Lib.hid (by rw [HV.out, if_pos rfl])
      unfold sval at *
      go_enter Tryd.func16, Tryd.ntmps16
      go_wp2_with fail
      rw [allocS_fold]
      generalize allocS w s h = w0 at *
      refine (HRK.out _ E0.out.now.2.1).mono ?_
      rintro e w1 ⟨rfl, hb⟩
      have E1 := Lib.hid (E0.out.next hb)
      clear hb
      go_wp2
      go_ret2
      exact ⟨retP HV1.out, E1.out.now.2.2⟩
    | succ n =>
      have HV1 : Hid (V = (((L.getD n 0 : Nat) : Int), 0)) := Lib.hid (by rw [HV.out, if_neg (by omega), show n + 1 - 1 = n from rfl])
      have hb : (((n + 1 : Nat) : Int) == 0) = false := by rw [beq_eq_false_iff_ne]; omega
      have d1 : IntKind.i64.wrap (((n + 1 : Nat) : Int) - 1) = (n : Int) := by rw [IntKind.wrap_i64]; omega
      clear HV
      unfold sval at *
      go_enter Tryd.func16, Tryd.ntmps16
      go_wp2_with fail
      rw [allocS_fold]
      generalize allocS w s h = w0 at *
      refine (HRK.out _ E0.out.now.2.1).mono ?_
      rintro e w1 ⟨rfl, hb⟩
      have E1 := Lib.hid (E0.out.next hb)
      clear hb
      obtain ⟨⟨⟨bs_0, bs_1, bs_2, bs_3, bs_4, bs_5, -⟩, bs_l⟩, -, -⟩ := E1.out.now
      go_wp2_with fail
      clear bs_0 bs_1 bs_2 bs_3 bs_4 bs_5 bs_l
      refine (HPL.out _ E1.out.now.2.1).mono ?_
      rintro e w2 ⟨v, rfl, ho, hb⟩
      obtain ⟨al, cl, rfl, hr2⟩ := places_read ho
      clear ho
      have E2 := Lib.hid ((E1.out.next hb).and (St.rdk hr2))
      clear hb
      obtain ⟨bl, ol, rfl, -, ca⟩ := rd_at E2.out.now.1 (i := n) (by rw [zs_length]; omega)
      rw [zs_getD] at ca
      generalize L.getD n 0 = x at *
      have hnl : n < L.length := by omega
      go_wp2
      go_ret2
      exact ⟨retP HV1.out, E2.out.now.2.2.2⟩
  · have HV : Hid (lasV s key = (0, chkK s)) := Lib.hid (if_neg hk)
    rw [show rankV s key = (0, chkK s) from if_neg hk] at HRK
    have hne : (chkK s != 0) = true := by rw [bne_iff_ne]; exact hk
    generalize lasV s key = V at *
    generalize chkK s = c at *
    clear hk R W
    unfold sval at *
    go_enter Tryd.func16, Tryd.ntmps16
    go_wp2_with fail
    rw [allocS_fold]
    generalize allocS w s h = w0 at *
    refine (HRK.out _ E0.out.now.2.1).mono ?_
    rintro e w1 ⟨rfl, hb⟩
    have E1 := Lib.hid (E0.out.next hb)
    clear hb
    go_wp2
    go_ret2
    exact ⟨retP HV.out, E1.out.now.2.2⟩
end Go.Proofs.YtljfbhkoppahaaaDoor.Seek
