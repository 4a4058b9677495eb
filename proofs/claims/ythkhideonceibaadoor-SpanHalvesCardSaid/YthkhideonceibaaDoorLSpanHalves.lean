/- The law SpanHalves: its walk. -/
import Derived.Test.YthkhideonceibaaDoorMaq
set_option linter.unusedSimpArgs false
set_option linter.unusedVariables false
namespace Go.Proofs.YthkhideonceibaaDoor.Span
open Go.RowKit Go.Shelf Go.Sort Go.Proofs.YthkhideonceibaaDoor Go.Proofs.YthkhideonceibaaDoor.Occ Go.Proofs.YthkhideonceibaaDoor.Slo Go.Proofs.YthkhideonceibaaDoor.Seek
attribute [local go_sem] sval Oper.semAt_some

set_option maxRecDepth 100000 in
set_option maxHeartbeats 16000000 in
theorem spanHalves (x : In) (a c b : Int) (w : World) (wx : x.Ok w) (wa : (Lit.int .i64 a).wf = true) (wc : (Lit.int .i64 c).wf = true) (wb : (Lit.int .i64 b).wf = true) (hT : Tab w) :
    Calls Tryd.prog 6 #[x.val, .int .i64 a, .int .i64 c, .int .i64 b] w fun e w' => e = .returned (.bool true) ∧ Below w.heap.size w w' := by
  obtain ⟨s, h, e1, S⟩ := wx.open
  rw [e1]
  have hc9 : c ≤ 9223372036854775807 := by simp [Lit.wf, IntKind.min, IntKind.max, IntKind.signed, IntKind.bits] at wc; omega
  have hb9 : -9223372036854775808 ≤ b := by simp [Lit.wf, IntKind.min, IntKind.max, IntKind.signed, IntKind.bits] at wb; omega
  have HC9 := Lib.hid (And.intro hc9 hb9)
  clear hc9 hb9
  have HS := Lib.hid S
  have HT := Lib.hid hT
  clear S e1 wx wa wc wb x hT
  have HG1 := Lib.hid (fun w1 => Great_any s h 600 w1)
  have HAL := Lib.hid (fun w1 hT => alive_any w1 hT)
  have hgd : Tryd.prog.eqGuardType Tryd.prog.depth 38 = false := by kernel_rfl
  have E0 := Lib.hid (((((St.below' (allocS_below w s h))).and (St.rd (HS.out.rd.next (allocS_below w s h)))).and ((St.tab HT.out).next (allocS_below w s h))).and (St.bs (allocS_bs w s h)))
  cases hg1 : greatB s 600
  case true =>
    rw [hg1] at HG1
    clear hg1
    go_enter Tryd.func6, Tryd.ntmps6
    go_wp2_with fail
    rw [allocS_fold]
    generalize allocS w s h = w0 at *
    refine (HAL.out _ E0.out.now.2.1).mono ?_
    rintro e w1 ⟨rfl, hb⟩
    have E1 := Lib.hid (E0.out.next hb)
    clear hb
    obtain ⟨⟨⟨bs_0, bs_1, bs_2, bs_3, bs_4, bs_5, -⟩, bs_l⟩, -, -, -⟩ := E1.out.now
    go_wp2_with fail
    clear bs_0 bs_1 bs_2 bs_3 bs_4 bs_5 bs_l
    refine (HG1.out _).mono ?_
    rintro e w2 ⟨rfl, hb⟩
    have E2 := Lib.hid (E1.out.next hb)
    clear hb
    go_wp2
    go_ret
    exact ⟨by simp, E2.out.now.2.2.2⟩
  rw [hg1] at HG1
  have hls := greatB_no (m := 600) hg1
  obtain ⟨hl1, hl2, hl3, hl4⟩ := hls
  have HW := Lib.hid (HS.out.wf ⟨by omega, by omega, by omega, by omega⟩)
  have HKL : Hid (s.ks.length ≤ 600) := Lib.hid (by omega)
  clear hg1 hl1 hl2 hl3 hl4
  by_cases hab : b < a
  · go_enter Tryd.func6, Tryd.ntmps6
    go_wp2_with fail
    rw [allocS_fold]
    generalize allocS w s h = w0 at *
    refine (HAL.out _ E0.out.now.2.1).mono ?_
    rintro e w1 ⟨rfl, hb⟩
    have E1 := Lib.hid (E0.out.next hb)
    clear hb
    obtain ⟨⟨⟨bs_0, bs_1, bs_2, bs_3, bs_4, bs_5, -⟩, bs_l⟩, -, -, -⟩ := E1.out.now
    go_wp2_with fail
    clear bs_0 bs_1 bs_2 bs_3 bs_4 bs_5 bs_l
    refine (HG1.out _).mono ?_
    rintro e w2 ⟨rfl, hb⟩
    have E2 := Lib.hid (E1.out.next hb)
    clear hb
    go_wp2
    go_ret
    exact ⟨by simp, E2.out.now.2.2.2⟩
  by_cases hbc : c ≤ b
  · go_enter Tryd.func6, Tryd.ntmps6
    go_wp2_with fail
    rw [allocS_fold]
    generalize allocS w s h = w0 at *
    refine (HAL.out _ E0.out.now.2.1).mono ?_
    rintro e w1 ⟨rfl, hb⟩
    have E1 := Lib.hid (E0.out.next hb)
    clear hb
    obtain ⟨⟨⟨bs_0, bs_1, bs_2, bs_3, bs_4, bs_5, -⟩, bs_l⟩, -, -, -⟩ := E1.out.now
    go_wp2_with fail
    clear bs_0 bs_1 bs_2 bs_3 bs_4 bs_5 bs_l
    refine (HG1.out _).mono ?_
    rintro e w2 ⟨rfl, hb⟩
    have E2 := Lib.hid (E1.out.next hb)
    clear hb
    go_wp2
    go_ret
    exact ⟨by simp, E2.out.now.2.2.2⟩
  have wr : IntKind.i64.wrap (b + 1) = b + 1 := by have := HC9.out; rw [IntKind.wrap_i64]; omega
  by_cases hk : chkK s = 0
  · obtain ⟨X, Y, Z, r, hH⟩ := halv_of hk HKL.out (show a ≤ b by omega) (show b < c by omega)
    have N := Lib.hid hH
    clear hH hk
    have H1 := Lib.hid (fun w1 (T : Tab w1) (R : SRd w1 s h) => Scan_any s h a b 1000 w1 T HW.out R)
    rw [N.out.x] at H1
    unfold AnsPr at H1
    dsimp only at H1
    have H2 := Lib.hid (fun w1 (T : Tab w1) (R : SRd w1 s h) => Scan_any s h (b + 1) c 1000 w1 T HW.out R)
    rw [N.out.y] at H2
    unfold AnsPr at H2
    dsimp only at H2
    have H3 := Lib.hid (fun w1 (T : Tab w1) (R : SRd w1 s h) => Scan_any s h a c 1000 w1 T HW.out R)
    rw [N.out.z] at H3
    unfold AnsPr at H3
    dsimp only at H3
    have H4 := Lib.hid (fun w1 (T : Tab w1) (R : SRd w1 s h) => Rank_any s h a w1 T HW.out R)
    rw [N.out.rank] at H4
    have HL := Lib.hid N.out.lens
    have HZZ := Lib.hid N.out.zz
    have HSL := Lib.hid (fun k w1 (hk : (k : Int) ≤ 9223372036854775807) (T : Tab w1) (R : SRd w1 s h) => Select_any s h k hk w1 T HW.out R)
    have HAT := Lib.hid N.out.at_
    obtain ⟨u, v, m, hfin⟩ := N.out.fin
    obtain ⟨hf1, hf2⟩ := hfin
    have HF1 := Lib.hid hf1
    have HF2 := Lib.hid hf2
    clear hf1 hf2 N HC9 HKL
    go_enter Tryd.func6, Tryd.ntmps6
    go_wp2_with fail
    rw [allocS_fold]
    generalize allocS w s h = w0 at *
    refine (HAL.out _ E0.out.now.2.1).mono ?_
    rintro e w1 ⟨rfl, hb⟩
    have E1 := Lib.hid (E0.out.next hb)
    clear hb
    obtain ⟨⟨⟨bs_0, bs_1, bs_2, bs_3, bs_4, bs_5, -⟩, bs_l⟩, -, -, -⟩ := E1.out.now
    go_wp2_with fail
    clear bs_0 bs_1 bs_2 bs_3 bs_4 bs_5 bs_l
    refine (HG1.out _).mono ?_
    rintro e w2 ⟨rfl, hb⟩
    have E2 := Lib.hid (E1.out.next hb)
    clear hb
    clear HAL HG1
    obtain ⟨⟨⟨bs_0, bs_1, bs_2, bs_3, bs_4, bs_5, -⟩, bs_l⟩, -, -, -⟩ := E2.out.now
    go_wp2_with fail
    clear bs_0 bs_1 bs_2 bs_3 bs_4 bs_5 bs_l
    refine (H1.out _ E2.out.now.2.1 E2.out.now.2.2.1).mono ?_
    rintro e w3 ⟨v, rfl, ho, hb⟩
    obtain ⟨a1, k1, rfl, -, hr2, -, nil1, -⟩ := owns2_arg ho
    clear ho
    have E3 := Lib.hid ((E2.out.next hb).and (St.rd2 hr2))
    clear hb
    clear hr2
    obtain ⟨-, ⟨⟨bs_0, bs_1, bs_2, bs_3, bs_4, bs_5, -⟩, bs_l⟩, -, -, -⟩ := E3.out.now
    go_wp2_with fail
    clear bs_0 bs_1 bs_2 bs_3 bs_4 bs_5 bs_l
    refine (H2.out _ E3.out.now.2.2.1 E3.out.now.2.2.2.1).mono ?_
    rintro e w4 ⟨v, rfl, ho, hb⟩
    obtain ⟨a2, k2, rfl, -, hr2, -, nil2, -⟩ := owns2_arg ho
    clear ho
    have E4 := Lib.hid ((E3.out.next hb).and (St.rd2 hr2))
    clear hb
    clear hr2
    obtain ⟨-, -, ⟨⟨bs_0, bs_1, bs_2, bs_3, bs_4, bs_5, -⟩, bs_l⟩, -, -, -⟩ := E4.out.now
    go_wp2_with fail
    clear bs_0 bs_1 bs_2 bs_3 bs_4 bs_5 bs_l
    refine (H3.out _ E4.out.now.2.2.2.1 E4.out.now.2.2.2.2.1).mono ?_
    rintro e w5 ⟨v, rfl, ho, hb⟩
    obtain ⟨a3, k3, rfl, -, hr2, -, nil3, -⟩ := owns2_arg ho
    clear ho
    have E5 := Lib.hid ((E4.out.next hb).and (St.rd2 hr2))
    clear hb
    clear hr2
    obtain ⟨-, -, -, ⟨⟨bs_0, bs_1, bs_2, bs_3, bs_4, bs_5, -⟩, bs_l⟩, -, -, -⟩ := E5.out.now
    go_wp2_with fail
    clear bs_0 bs_1 bs_2 bs_3 bs_4 bs_5 bs_l
    refine (H4.out _ E5.out.now.2.2.2.2.1 E5.out.now.2.2.2.2.2.1).mono ?_
    rintro e w6 ⟨rfl, hb⟩
    have E6 := Lib.hid (E5.out.next hb)
    clear hb
    clear H1 H2 H3 H4 wr
    have hl := HL.out
    go_wp2
    go_loopw [18, 19, 20] (fun i _ _ wr => ∃ k : Nat, k ≤ Z.length ∧ i = .int .i64 k ∧ Below w6.heap.size w6 wr) (fun i _ _ _ => Z.length - (intOf i).toNat)
    case atStart => exact ⟨0, Nat.zero_le _, rfl, Below.refl _ _⟩
    case round =>
      obtain ⟨k, hk, rfl, hb⟩ := hrel
      have E7 := Lib.hid ((E6.out.next hb).and (St.below' hb))
      clear hb
      by_cases hlt : k < Z.length
      · have HI := Lib.hid (fun w1 T R => HSL.out ((r + k : Nat) : Int) w1 (by omega) T R)
        obtain ⟨hat1, hat2, hat3⟩ := HAT.out k hlt
        rw [hat1] at HI
        unfold AnsP1 at HI
        dsimp only at HI
        clear hat1
        have wr1 : IntKind.i64.wrap ((r : Int) + (k : Int)) = ((r + k : Nat) : Int) := by rw [IntKind.wrap_i64]; omega
        obtain ⟨bz, oz, rfl, -, -⟩ := Rd2.at E7.out.now.2.1 (Below.refl _ _) (Nat.le_refl _) hlt
        have HRD := Lib.hid (fun W (R : Rd2 W (some ⟨bz, oz, Option.none⟩) Z) => Rd2.at R (Below.refl _ _) (Nat.le_refl _) hlt)
        generalize Z.getD k (0, 0) = qk at *
        obtain ⟨q1, q2⟩ := qk
        dsimp only at HI hat2 hat3 HRD
        have t1 : decide (q1 < a) = false := by simpa using hat2
        have t2 : decide (c < q1) = false := by simpa using hat3
        clear hat2 hat3
        have hqz : ∀ w : World, (Op.equalIn 10000 38 (.agg #[.int .i64 q1, .int .i64 q2]) (.agg #[.int .i64 q1, .int .i64 q2])).run Tryd.prog w = .ok true w := fun w => by rw [run_equal_pair]; simp
        obtain ⟨-, -, -, -, ⟨⟨bs_0, bs_1, bs_2, bs_3, bs_4, bs_5, -⟩, bs_l⟩, -, -, -⟩ := E7.out.now
        go_wp2_with fail
        clear bs_0 bs_1 bs_2 bs_3 bs_4 bs_5 bs_l
        refine (HI.out _ E7.out.now.2.2.2.2.2.1 E7.out.now.2.2.2.2.2.2.1).mono ?_
        rintro e w8 ⟨rfl, hb⟩
        have E8 := Lib.hid (E7.out.next hb)
        clear hb
        clear HI wr1
        go_wp2_with fail
        rw [allocP_fold]
        have E9 := Lib.hid ((E8.out.next (allocP_below w8 q1 q2)).and (St.bp (allocP_bp w8 q1 q2)))
        generalize allocP w8 q1 q2 = w9 at *
        obtain ⟨bv, ov, e4, ce, cf⟩ := HRD.out _ E9.out.now.2.2.1
        cases e4
        clear HRD
        obtain ⟨⟨⟨bq_0, bq_1, -⟩, bq_l⟩, -, -, -, -, -, -, -, -⟩ := E9.out.now
        refine still_lit mixed' (by kernel_rfl) ?_
        repeat still_step
        refine wpStill_nil ?_
        go_wp2
        go_roundw
        case rel => exact ⟨k + 1, by omega, by go_num, (E9.out.now.2.1).drew⟩
        case measure => simp [intOf]; omega
      · obtain rfl : k = Z.length := by omega
        clear hlt hk
        have HI := Lib.hid (fun w1 T R => HSL.out ((r + Z.length : Nat) : Int) w1 (by omega) T R)
        rw [HF1.out] at HI
        unfold AnsP1 at HI
        dsimp only at HI
        clear HAT HSL HF1
        have wr1 : IntKind.i64.wrap ((r : Int) + (Z.length : Int)) = ((r + Z.length : Nat) : Int) := by rw [IntKind.wrap_i64]; omega
        obtain ⟨-, -, -, -, ⟨⟨bs_0, bs_1, bs_2, bs_3, bs_4, bs_5, -⟩, bs_l⟩, -, -, -⟩ := E7.out.now
        go_wp2_with fail
        clear bs_0 bs_1 bs_2 bs_3 bs_4 bs_5 bs_l
        refine (HI.out _ E7.out.now.2.2.2.2.2.1 E7.out.now.2.2.2.2.2.2.1).mono ?_
        rintro e w8 ⟨rfl, hb⟩
        have E8 := Lib.hid (E7.out.next hb)
        clear hb
        clear HI wr1 hl
        obtain ⟨i0, hi, hz0, hz1, hz2⟩ : ∃ i0, Tryd.prog.info? 38 = some i0 ∧ i0.zero = some (.agg #[.int .i64 0, .int .i64 0]) ∧ i0.size = 2 ∧ i0.bytes = 16 := by
          have h := infoPr
          cases hh : Tryd.prog.info? 38 with
          | none => rw [hh] at h; simp at h
          | some i0 => rw [hh] at h; simp at h; exact ⟨i0, rfl, h⟩
        have hsz : (allocP w8 u v).heap.size = w8.heap.size + 1 := by simp [allocP]
        have E9 := Lib.hid ((E8.out.next (allocP_below w8 u v)).and (St.bp (allocP_bp w8 u v)))
        go_wp2_with (at_builtin; refine wpList_want rfl (wpList_append_copy2 rfl _ _ 30 38 rfl i0 Tryd.underlying30 hi hz0 hz1 hz2 a1 k1 X (congrArg (fun z => Value.slice (some ⟨z, 0, Option.none⟩) 0 0) hsz.symm) rfl E9.out.now.2.2.2.2.1 nil1 (by unfold maxLen; have := HL.out; omega) (by have := HL.out; omega) ?_))
        intro v1 wx hv1 hb1
        have hb4 : Below (allocP w8 u v).heap.size (allocP w8 u v) wx := by rw [hsz]; exact hb1
        have hbs : w8.heap.size + 1 ≤ wx.heap.size := by have := hb4.size; rw [hsz] at this; exact this
        have E10 := Lib.hid (E9.out.next hb4)
        go_wp2_with (at_builtin; refine wpList_want rfl (wpList_append_pairs (L := X) hv1 hbs rfl _ _ 30 rfl i0 Tryd.underlying30 hi hz0 hz1 hz2 a2 k2 Y rfl rfl E10.out.now.2.2.2.1 nil2 (by unfold maxLen; have := HL.out; omega) (by have := HL.out; omega) ?_))
        intro v2 wy hv2 hb2
        rw [← List.length_append] at hv2
        have hle : (X ++ Y).length ≤ 600 := by rw [List.length_append]; have := HL.out; omega
        have hee : decide (X ++ Y = Z) = true := by rw [HZZ.out]; simp
        generalize X ++ Y = V at *
        have hb3 : Below (allocP w8 u v).heap.size (allocP w8 u v) wy := by rw [hsz]; exact hb1.trans hb2
        have E11 := Lib.hid (E9.out.next hb3)
        obtain ⟨ap, cp, rfl, -, hrp, -⟩ := owns2_arg hv2
        have HPP := Lib.hid (samePairs_any ap a3 cp k3 V Z wy hrp E11.out.now.2.2.1 (by omega) (by have := HL.out; omega))
        rw [hee] at HPP
        clear hrp hv2 hb1 hb2 hv1 hee hb3 hb4 hbs
        go_wp2_with fail
        refine (HPP.out).mono ?_
        rintro e w12 ⟨rfl, hb⟩
        have E12 := Lib.hid (E11.out.next hb)
        clear hb
        clear HPP
        obtain ⟨⟨⟨bq_0, bq_1, -⟩, bq_l⟩, -, -, -, -, -, -, -, -⟩ := E12.out.now
        rcases HF2.out with rfl | ⟨rfl, hcu⟩
        · go_wp2_with fail
          go_ret
          exact ⟨by simp, E12.out.now.2.2.2.2.2.2.2.2⟩
        · have t1 : decide (c < u) = true := by simpa using hcu
          go_wp2_with fail
          go_ret
          exact ⟨by simp, E12.out.now.2.2.2.2.2.2.2.2⟩
  · have hS : ∀ u v, scanV s u v 1000 = ([], chkK s) := fun u v => if_pos hk
    have H1 := Lib.hid (fun w1 (T : Tab w1) (R : SRd w1 s h) => Scan_any s h a b 1000 w1 T HW.out R)
    rw [hS a b] at H1
    unfold AnsPr at H1
    dsimp only at H1
    have H2 := Lib.hid (fun w1 (T : Tab w1) (R : SRd w1 s h) => Scan_any s h (b + 1) c 1000 w1 T HW.out R)
    rw [hS (b + 1) c] at H2
    unfold AnsPr at H2
    dsimp only at H2
    have H3 := Lib.hid (fun w1 (T : Tab w1) (R : SRd w1 s h) => Scan_any s h a c 1000 w1 T HW.out R)
    rw [hS a c] at H3
    unfold AnsPr at H3
    dsimp only at H3
    have hne : (chkK s != 0) = true := by rw [bne_iff_ne]; exact hk
    clear hS hk
    generalize chkK s = cc at *
    go_enter Tryd.func6, Tryd.ntmps6
    go_wp2_with fail
    rw [allocS_fold]
    generalize allocS w s h = w0 at *
    refine (HAL.out _ E0.out.now.2.1).mono ?_
    rintro e w1 ⟨rfl, hb⟩
    have E1 := Lib.hid (E0.out.next hb)
    clear hb
    obtain ⟨⟨⟨bs_0, bs_1, bs_2, bs_3, bs_4, bs_5, -⟩, bs_l⟩, -, -, -⟩ := E1.out.now
    go_wp2_with fail
    clear bs_0 bs_1 bs_2 bs_3 bs_4 bs_5 bs_l
    refine (HG1.out _).mono ?_
    rintro e w2 ⟨rfl, hb⟩
    have E2 := Lib.hid (E1.out.next hb)
    clear hb
    obtain ⟨⟨⟨bs_0, bs_1, bs_2, bs_3, bs_4, bs_5, -⟩, bs_l⟩, -, -, -⟩ := E2.out.now
    go_wp2_with fail
    clear bs_0 bs_1 bs_2 bs_3 bs_4 bs_5 bs_l
    refine (H1.out _ E2.out.now.2.1 E2.out.now.2.2.1).mono ?_
    rintro e w3 ⟨v, rfl, ho, hb⟩
    obtain ⟨a1, k1, rfl, -, hr2, -, nil1, -⟩ := owns2_arg ho
    clear ho
    have E3 := Lib.hid ((E2.out.next hb).and (St.rd2 hr2))
    clear hb
    clear hr2
    obtain ⟨-, ⟨⟨bs_0, bs_1, bs_2, bs_3, bs_4, bs_5, -⟩, bs_l⟩, -, -, -⟩ := E3.out.now
    go_wp2_with fail
    clear bs_0 bs_1 bs_2 bs_3 bs_4 bs_5 bs_l
    refine (H2.out _ E3.out.now.2.2.1 E3.out.now.2.2.2.1).mono ?_
    rintro e w4 ⟨v, rfl, ho, hb⟩
    obtain ⟨a2, k2, rfl, -, hr2, -, nil2, -⟩ := owns2_arg ho
    clear ho
    have E4 := Lib.hid ((E3.out.next hb).and (St.rd2 hr2))
    clear hb
    clear hr2
    obtain ⟨-, -, ⟨⟨bs_0, bs_1, bs_2, bs_3, bs_4, bs_5, -⟩, bs_l⟩, -, -, -⟩ := E4.out.now
    go_wp2_with fail
    clear bs_0 bs_1 bs_2 bs_3 bs_4 bs_5 bs_l
    refine (H3.out _ E4.out.now.2.2.2.1 E4.out.now.2.2.2.2.1).mono ?_
    rintro e w5 ⟨v, rfl, ho, hb⟩
    obtain ⟨a3, k3, rfl, -, hr2, -, nil3, -⟩ := owns2_arg ho
    clear ho
    have E5 := Lib.hid ((E4.out.next hb).and (St.rd2 hr2))
    clear hb
    clear hr2
    go_wp2
    go_ret
    exact ⟨by simp, E5.out.now.2.2.2.2.2.2⟩
end Go.Proofs.YthkhideonceibaaDoor.Span
