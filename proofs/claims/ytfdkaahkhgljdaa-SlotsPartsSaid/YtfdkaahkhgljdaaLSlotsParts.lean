/- The law SlotsParts: its walk. -/
import Derived.Test.YtfdkaahkhgljdaaMan
namespace Go.Proofs.Ytfdkaahkhgljdaa.Slo
open Go.RowKit Go.Shelf Go.Sort Go.Proofs.Ytfdkaahkhgljdaa Go.Proofs.Ytfdkaahkhgljdaa.Occ Go.Proofs.Ytfdkaahkhgljdaa.Frac
attribute [local go_sem] sval Oper.semAt_some

theorem prsV_len (s : Sl) (a b : Int) : (prsV s a b).1.length ≤ s.ks.length := by
  unfold prsV
  split
  · rename_i h
    obtain ⟨_, hin⟩ := askS_ok h
    obtain ⟨h0, h1, h2⟩ := inB_iff.1 hin
    rw [prs_length]
    have := occs_length s.ws a.toNat (b - a).toNat
    omega
  · simp
theorem prsV_same (s : Sl) (a : Int) : (prsV s 0 a).2 = (prsV s a s.ks.length).2 := by
  have e : inB s.ks.length 0 a = inB s.ks.length a s.ks.length := by
    rw [Bool.eq_iff_iff, inB_iff, inB_iff]; omega
  unfold prsV
  rw [e]
  split <;> rfl
theorem prsV_all {s : Sl} {a : Int} (h : (prsV s 0 a).2 = 0) :
    (prsV s 0 s.ks.length).2 = 0 ∧ (prsV s 0 s.ks.length).1 = (prsV s 0 a).1 ++ (prsV s a s.ks.length).1 ∧ okS s = true ∧ (prsV s 0 s.ks.length).1.length = (occs s.ws 0 s.ks.length).length := by
  have h2 := prsV_same s a
  rw [h] at h2
  unfold prsV at h h2 ⊢
  by_cases h3 : askS s (inB s.ks.length 0 a) = 0
  · obtain ⟨hk, hin⟩ := askS_ok h3
    obtain ⟨h0, h1, hn⟩ := inB_iff.1 hin
    have i1 : askS s (inB s.ks.length 0 s.ks.length) = 0 := by rw [inB_iff.2 (by omega)]; exact askS_in hk
    have i2 : askS s (inB s.ks.length a s.ks.length) = 0 := by rw [inB_iff.2 (by omega)]; exact askS_in hk
    rw [if_pos i1, if_pos h3, if_pos i2]
    refine ⟨rfl, ?_, hk, ?_⟩
    · obtain ⟨m, rfl⟩ := Int.eq_ofNat_of_zero_le h1
      have e := occs_add s.ws 0 m (s.ks.length - m)
      rw [show m + (s.ks.length - m) = s.ks.length by omega, Nat.zero_add] at e
      simp only [Int.toNat_zero, Int.sub_zero, Int.toNat_natCast]
      rw [show ((s.ks.length : Int) - (m : Int)).toNat = s.ks.length - m by omega]
      unfold prs
      rw [e, List.map_append]
    · simp only [Int.toNat_zero, Int.sub_zero, Int.toNat_natCast]
      rw [prs_length]
  · rw [if_neg h3] at h
    exact absurd h h3
theorem askS_zero' {s : Sl} {b : Bool} (h : askS s b ≠ 0) : askS s b = 8 ∨ askS s b = 2 := by
  unfold askS at *; split at h <;> split <;> simp_all

/-- How many of the slots ahead of segment k are occupied. -/
theorem cnt_upto {s : Sl} {g q : Nat} (o : Ok s g q) {k : Nat} (hk : k < q) : (((occs s.ws 0 (k * g)).length : Nat) : Int) + s.cs.getD k 0 = ((occs s.ws 0 ((k + 1) * g)).length : Int) := by
  have e := occs_add s.ws 0 (k * g) g
  rw [o.cnt k hk, show (k + 1) * g = k * g + g by rw [Nat.add_mul, Nat.one_mul], e, Nat.zero_add, List.length_append]
  omega

set_option maxRecDepth 100000 in
set_option maxHeartbeats 8000000 in
theorem slotsParts (x : In) (a : Int) (w : World) (wx : x.Ok w) (wa : (Lit.int .i64 a).wf = true) :
    Calls Try.prog 7 #[x.val, .int .i64 a] w fun e w' => e = .returned (.bool true) ∧ Below w.heap.size w w' := by
  obtain ⟨s, h, e1, S⟩ := wx.open
  rw [e1]
  have HS := Lib.hid S
  have HWA := Lib.hid wa
  clear S e1 wx wa x
  have HG1 := Lib.hid (fun w1 => Great_any s h 300 w1)
  have HAL := Lib.hid alive_any
  have E0 := Lib.hid ((((St.below w).next (allocS_below w s h)).and (St.rd (HS.out.rd.next (allocS_below w s h)))).and (St.bs (allocS_bs w s h)))
  cases hg1 : greatB s 300
  case true =>
    rw [hg1] at HG1
    clear hg1
    go_enter Try.func7, Try.ntmps7
    go_wp2_with fail
    rw [allocS_fold]
    refine (HAL.out _).mono ?_
    rintro e w1 ⟨rfl, hb⟩
    have E1 := Lib.hid (E0.out.next hb)
    clear hb
    obtain ⟨⟨⟨bs_0, bs_1, bs_2, bs_3, bs_4, bs_5, -⟩, bs_l⟩, -, -⟩ := E1.out.now
    go_wp2_with fail
    refine (HG1.out _).mono ?_
    rintro e w2 ⟨rfl, hb⟩
    clear bs_0 bs_1 bs_2 bs_3 bs_4 bs_5 bs_l
    have E2 := Lib.hid (E1.out.next hb)
    clear hb
    go_wp2
    go_ret
    exact ⟨rfl, E2.out.now.2.2⟩
  rw [hg1] at HG1
  have hls := greatB_no (m := 300) hg1
  obtain ⟨hl1, hl2, hl3, hl4⟩ := hls
  have HW := Lib.hid (HS.out.wf ⟨by omega, by omega, by omega, by omega⟩)
  have HP1 := Lib.hid (fun w1 (R : SRd w1 s h) => sPairs_any s h 0 s.ks.length w1 HW.out R)
  have HP2 := Lib.hid (fun w1 (R : SRd w1 s h) => sPairs_any s h 0 a w1 HW.out R)
  have HP3 := Lib.hid (fun w1 (R : SRd w1 s h) => sPairs_any s h a s.ks.length w1 HW.out R)
  have HL1 : Hid ((prsV s 0 s.ks.length).1.length ≤ 300) := Lib.hid (by have := prsV_len s 0 s.ks.length; have := hl2; omega)
  have HL2 : Hid ((prsV s 0 a).1.length ≤ 300) := Lib.hid (by have := prsV_len s 0 a; have := hl2; omega)
  have HL3 : Hid ((prsV s a s.ks.length).1.length ≤ 300) := Lib.hid (by have := prsV_len s a s.ks.length; have := hl2; omega)
  have HE : Hid ((prsV s 0 a).2 = 0 → (prsV s 0 s.ks.length).2 = 0 ∧ (prsV s 0 s.ks.length).1 = (prsV s 0 a).1 ++ (prsV s a s.ks.length).1 ∧ okS s = true ∧ (prsV s 0 s.ks.length).1.length = (occs s.ws 0 s.ks.length).length) := Lib.hid (fun h => prsV_all h)
  have HQ := Lib.hid (prsV_same s a)
  have HC : Hid (s.cs.length ≤ 300) := Lib.hid hl4
  generalize prsV s 0 s.ks.length = V1 at *
  generalize prsV s 0 a = V2 at *
  generalize prsV s a s.ks.length = V3 at *
  obtain ⟨LA, ea⟩ := V1
  obtain ⟨LB, eb⟩ := V2
  obtain ⟨LC, ec⟩ := V3
  dsimp only at HL1 HL2 HL3 HE HQ
  obtain rfl := HQ.out
  clear HQ hg1 hl1 hl2 hl3 hl4
  go_enter Try.func7, Try.ntmps7
  go_wp2_with fail
  rw [allocS_fold]
  refine (HAL.out _).mono ?_
  rintro e w1 ⟨rfl, hb⟩
  have E1 := Lib.hid (E0.out.next hb)
  clear hb
  obtain ⟨⟨⟨bs_0, bs_1, bs_2, bs_3, bs_4, bs_5, -⟩, bs_l⟩, -, -⟩ := E1.out.now
  go_wp2_with fail
  refine (HG1.out _).mono ?_
  rintro e w2 ⟨rfl, hb⟩
  clear bs_0 bs_1 bs_2 bs_3 bs_4 bs_5 bs_l
  have E2 := Lib.hid (E1.out.next hb)
  clear hb
  obtain ⟨⟨⟨bs_0, bs_1, bs_2, bs_3, bs_4, bs_5, -⟩, bs_l⟩, -, -⟩ := E2.out.now
  go_wp2_with fail
  clear bs_0 bs_1 bs_2 bs_3 bs_4 bs_5 bs_l
  refine (HP1.out _ E2.out.now.2.1).mono ?_
  rintro e w3 ⟨v, rfl, ho, hb⟩
  obtain ⟨ax, cx, rfl, -, hr2, -, nilx, -⟩ := owns2_arg ho
  have E3 := Lib.hid (((E2.out.next hb).and (St.row ho)).and (St.rd2 hr2))
  clear hb
  obtain ⟨-, -, ⟨⟨bs_0, bs_1, bs_2, bs_3, bs_4, bs_5, -⟩, bs_l⟩, -, -⟩ := E3.out.now
  go_wp2_with fail
  clear bs_0 bs_1 bs_2 bs_3 bs_4 bs_5 bs_l
  refine (HP2.out _ E3.out.now.2.2.2.1).mono ?_
  rintro e w4 ⟨v, rfl, ho, hb⟩
  obtain ⟨ay, cy, rfl, -, hr2, -, nily, -⟩ := owns2_arg ho
  have E4 := Lib.hid (((E3.out.next hb).and (St.row ho)).and (St.rd2 hr2))
  clear hb
  obtain ⟨-, -, -, -, ⟨⟨bs_0, bs_1, bs_2, bs_3, bs_4, bs_5, -⟩, bs_l⟩, -, -⟩ := E4.out.now
  go_wp2_with fail
  clear bs_0 bs_1 bs_2 bs_3 bs_4 bs_5 bs_l
  refine (HP3.out _ E4.out.now.2.2.2.2.2.1).mono ?_
  rintro e w5 ⟨v, rfl, ho, hb⟩
  obtain ⟨az, cz, rfl, -, hr2, -, nilz, -⟩ := owns2_arg ho
  have E5 := Lib.hid (((E4.out.next hb).and (St.row ho)).and (St.rd2 hr2))
  clear hb
  clear HP1 HP2 HP3 HG1 HAL
  dsimp only
  by_cases hz : eb = 0
  · subst hz
    obtain ⟨rfl, hLA, hk, hn⟩ := HE.out rfl
    obtain ⟨g, q, o⟩ := okS_iff.1 hk
    have HLA := Lib.hid hLA
    have HO := Lib.hid o
    obtain rfl : s.cs.length = q := o.c
    have HN : Hid (LA.length = (occs s.ws 0 (s.cs.length * g)).length) := Lib.hid (by rw [← o.n]; exact hn)
    clear hLA hk o HE hn
    obtain ⟨-, -, -, -, -, -, ⟨⟨bs_0, bs_1, bs_2, bs_3, bs_4, bs_5, -⟩, bs_l⟩, -, -⟩ := E5.out.now
    have f0 := 0
    clear f0
    go_wp2_with fail
    go_loop [12, 13] (fun n i => ∃ k : Nat, k ≤ s.cs.length ∧ i = .int .i64 k ∧ n = .int .i64 ((occs s.ws 0 (k * g)).length : Int)) (fun _ i => s.cs.length - (intOf i).toNat)
    case atStart => exact ⟨0, Nat.zero_le _, rfl, by rw [Nat.zero_mul]; rfl⟩
    case round =>
      obtain ⟨k, hk, rfl, rfl⟩ := hrel
      have hcc := HC.out
      by_cases hlt : k < s.cs.length
      · obtain ⟨bc, oc, hac, hbc, hcell⟩ := rd_at E5.out.now.2.2.2.2.2.2.2.1.fc (i := k) (by omega)
        have HU := Lib.hid (cnt_upto HO.out hlt)
        have HB1 : Hid ((occs s.ws 0 ((k + 1) * g)).length ≤ 1000000) := Lib.hid (by have := occs_length s.ws 0 ((k + 1) * g); have h1 := Nat.mul_le_mul (show k + 1 ≤ 300 by have := HC.out; omega) HO.out.g64; omega)
        generalize hC1 : (occs s.ws 0 ((k + 1) * g)).length = C1 at *
        have HC1 := Lib.hid hC1
        clear hC1
        generalize (occs s.ws 0 (k * g)).length = C0 at *
        generalize s.cs.getD k 0 = x at *
        have hwr : IntKind.i64.wrap ((C0 : Int) + x) = (C1 : Int) := by rw [HU.out, IntWalk.i64_in _ (by have := HB1.out; omega)]
        rw [hac] at bs_4
        go_wp2
        go_round
        case rel => exact ⟨k + 1, by omega, by go_num, by rw [HC1.out]⟩
        case measure => simp [intOf]; omega
      · obtain rfl : k = s.cs.length := by omega
        have hlc : ((occs s.ws 0 (s.cs.length * g)).length : Int) = (LA.length : Int) := by rw [HN.out]
        obtain ⟨i0, hi, hz0, hz1, hz2⟩ : ∃ i0, Try.prog.info? 43 = some i0 ∧ i0.zero = some (.agg #[.int .i64 0, .int .i64 0]) ∧ i0.size = 2 ∧ i0.bytes = 16 := by
          have h := infoPr
          cases hh : Try.prog.info? 43 with
          | none => rw [hh] at h; simp at h
          | some i0 => rw [hh] at h; simp at h; exact ⟨i0, rfl, h⟩
        rw [hlc]
        go_wp2_with (at_builtin; refine wpList_want rfl (wpList_append_copy2 rfl _ _ 29 43 rfl i0 Try.underlying29 hi hz0 hz1 hz2 ay cy LB rfl rfl E5.out.now.2.2.1 nily (by unfold maxLen; have := HL2.out; omega) (by have := HL2.out; omega) ?_))
        intro v1 w6 hv1 hb1
        have E6 := Lib.hid (E5.out.next hb1)
        go_wp2_with (at_builtin; refine wpList_want rfl (wpList_append_pairs (L := LB) hv1 hb1.size rfl _ _ 29 rfl i0 Try.underlying29 hi hz0 hz1 hz2 az cz LC rfl rfl E6.out.now.1 nilz (by unfold maxLen; have := HL2.out; have := HL3.out; omega) (by have := HL2.out; have := HL3.out; omega) ?_))
        intro v2 w7 hv2 hb2
        rw [← List.length_append] at hv2
        have HLX : Hid ((LB ++ LC).length ≤ 600 ∧ LA = LB ++ LC) := Lib.hid ⟨by rw [List.length_append]; have := HL2.out; have := HL3.out; omega, HLA.out⟩
        generalize LB ++ LC = LX at hv2 HLX
        have E7 := Lib.hid (E5.out.next (hb1.trans hb2))
        obtain ⟨ap, cp, rfl, -, hrp, -⟩ := owns2_arg hv2
        have HPP := Lib.hid (samePairs_any ap ax cp cx LX LA w7 hrp E7.out.now.2.2.2.2.1 (by have := HLX.out.1; omega) (by have := HL1.out; omega))
        rw [show decide (LX = LA) = true by rw [HLX.out.2]; simp] at HPP
        clear hrp hv2 hb1 hb2 hv1
        go_wp2_with fail
        refine HPP.out.mono ?_
        rintro e w8 ⟨rfl, hb⟩
        have E8 := Lib.hid (E7.out.next hb)
        go_wp2_with fail
        go_ret
        exact ⟨by simp, E8.out.now.2.2.2.2.2.2.2.2⟩
  · have hb : (eb != 0) = true := by rw [bne_iff_ne]; exact hz
    clear HE hz
    by_cases hx : ea = 0
    · subst hx
      go_wp2
      go_ret
      exact ⟨by simp, E5.out.now.2.2.2.2.2.2.2.2⟩
    · have ha : (ea != 0) = true := by rw [bne_iff_ne]; exact hx
      clear hx
      go_wp2
      go_ret
      exact ⟨by simp, E5.out.now.2.2.2.2.2.2.2.2⟩
end Go.Proofs.Ytfdkaahkhgljdaa.Slo
