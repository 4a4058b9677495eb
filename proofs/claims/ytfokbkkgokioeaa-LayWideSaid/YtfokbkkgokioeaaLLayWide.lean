/- The law LayWide: its walk. -/
import Derived.Test.YtfokbkkgokioeaaMao
set_option linter.unusedSimpArgs false
set_option linter.unusedVariables false
namespace Go.Proofs.Ytfokbkkgokioeaa.Lay
open Go.RowKit Go.Shelf Go.Sort Go.Proofs.Ytfokbkkgokioeaa Go.Proofs.Ytfokbkkgokioeaa.Occ Go.Proofs.Ytfokbkkgokioeaa.Slo
attribute [local go_sem] sval Oper.semAt_some

theorem Rd2.of_own {w : World} {base n c : Nat} {e : TypeId} {a : Option Addr} {zs : List (Int × Int)} (h : w.ownsRow base e 2 (.slice a n c) n (pcells zs)) : Rd2 w a zs := by
  obtain ⟨a', c', e, -, hr, -⟩ := owns2_arg h
  cases e; exact hr
set_option maxRecDepth 100000 in
set_option maxHeartbeats 16000000 in
theorem layWide (x : In) (n : Int) (al : Option Addr) (ll cl : Nat) (zl : List (Int × Int)) (w : World) (wx : x.Ok w) (wn : (Lit.int .i64 n).wf = true) (rl : Opn.IsRow2 w al ll cl zl) :
    Calls Try.prog 3 #[x.val, .int .i64 n, .slice al ll cl] w fun e w' => e = .returned (.bool true) ∧ Below w.heap.size w w' := by
  obtain ⟨s, h, e1, S⟩ := wx.open
  obtain ⟨rfl, hrp, hnl, hcl, hbl⟩ := argP_of rl
  rw [e1]
  have HS := Lib.hid S
  have HRP := Lib.hid hrp
  have HNL := Lib.hid hnl
  have HWN := Lib.hid wn
  clear S e1 wx wn x hrp rl hcl hbl hnl
  have HG1 := Lib.hid (fun w1 => Great_any s h 300 w1)
  have E0 := Lib.hid (((((St.below' (allocS_below w s h))).and (St.rd (HS.out.rd.next (allocS_below w s h)))).and (St.bs (allocS_bs w s h))).and (St.rd2 (HRP.out.mono (allocS_below w s h) (Nat.le_refl _))))
  cases hg1 : greatB s 300
  case true =>
    rw [hg1] at HG1
    clear hg1
    go_enter Try.func3, Try.ntmps3
    go_wp2_with fail
    rw [allocS_fold]
    refine (HG1.out _).mono ?_
    rintro e w1 ⟨rfl, hb⟩
    have E1 := Lib.hid (E0.out.next hb)
    clear hb
    go_wp2
    go_ret
    exact ⟨rfl, E1.out.now.2.2.2⟩
  rw [hg1] at HG1
  have hls := greatB_no (m := 300) hg1
  obtain ⟨hl1, hl2, hl3, hl4⟩ := hls
  have HW := Lib.hid (HS.out.wf ⟨by omega, by omega, by omega, by omega⟩)
  have HSO := Lib.hid (fun h1 h2 w1 R1 R2 => same_refl s h1 h2 w1 R1 R2 ⟨by omega, by omega, by omega, by omega⟩)
  clear hg1 hl1 hl2 hl3 hl4
  by_cases hp3 : 300 < zl.length
  · go_enter Try.func3, Try.ntmps3
    go_wp2_with fail
    rw [allocS_fold]
    refine (HG1.out _).mono ?_
    rintro e w1 ⟨rfl, hb⟩
    have E1 := Lib.hid (E0.out.next hb)
    clear hb
    go_wp2
    go_ret
    exact ⟨rfl, E1.out.now.2.2.2⟩
  have HZX : Hid (zl.length ≤ 300) := Lib.hid (by omega)
  have HX1 := Lib.hid (fun h1 am cm w1 (R : SRd w1 s h1) (RL : Rd2 w1 am zl) => Into_any s h1 n am cm zl w1 HW.out R HWN.out RL (by have := HZX.out; omega))
  have HX2 := Lib.hid (fun w1 (R : SRd w1 s h) (RL : Rd2 w1 al zl) => refInto_any s h n al cl zl w1 HW.out R HWN.out RL (by have := HZX.out; omega))
  have hle := intoSV_len s n zl
  generalize intoSV s n zl = vX at *
  obtain ⟨X, ex⟩ := vX
  dsimp only at hle
  have HXL := Lib.hid hle
  have HXS := Lib.hid (fun h1 h2 w1 R1 R2 => same_refl X h1 h2 w1 R1 R2 ⟨by have := HXL.out; omega, by have := HXL.out; omega, by have := HXL.out; omega, by have := HXL.out; omega⟩)
  clear hle
  have HSP := Lib.hid (fun am cm w1 (R1 : Rd2 w1 am zl) (R2 : Rd2 w1 al zl) => samePairs_any am al cm cl zl zl w1 R1 R2 (by have := HZX.out; omega) (by have := HZX.out; omega))
  rw [show decide (zl = zl) = true by simp] at HSP
  obtain ⟨i0, hi, hz0, hz1, hz2⟩ := info_parts infoPr
  by_cases hn3 : 300 < n
  · by_cases hn4 : n ≤ 65536
    · go_enter Try.func3, Try.ntmps3
      go_wp2_with fail
      rw [allocS_fold]
      refine (HG1.out _).mono ?_
      rintro e w1 ⟨rfl, hb⟩
      have E1 := Lib.hid (E0.out.next hb)
      clear hb
      go_wp2
      go_ret
      exact ⟨rfl, E1.out.now.2.2.2⟩
    · go_enter Try.func3, Try.ntmps3
      go_wp2_with fail
      rw [allocS_fold]
      refine (HG1.out _).mono ?_
      rintro e w1 ⟨rfl, hb⟩
      have E1 := Lib.hid (E0.out.next hb)
      clear hb
      obtain ⟨-, ⟨⟨bs_0, bs_1, bs_2, bs_3, bs_4, bs_5, -⟩, bs_l⟩, -, -⟩ := E1.out.now
      go_wp2_with fail
      clear bs_0 bs_1 bs_2 bs_3 bs_4 bs_5 bs_l
      refine (refTwin_any s h _ HW.out E1.out.now.2.2.1 HS.out.no).mono ?_
      rintro e w2 ⟨h1, rfl, ho, hb⟩
      have E2 := Lib.hid ((((E1.out.next hb).and (St.own ho)).and (St.le hb.size)).and (St.le (Nat.le_refl w2.heap.size)))
      clear hb
      clear ho
      go_wp2_with (at_builtin; refine wpList_append_copy2 rfl _ _ 28 42 rfl i0 Try.underlying28 hi hz0 hz1 hz2 al cl zl rfl rfl E2.out.now.2.2.2.1 HNL.out (by unfold maxLen; have := HZX.out; omega) (by have := HZX.out; omega) ?_)
      intro v2 w3 hv2 hb
      obtain ⟨am, cm, rfl, -, hrm, -⟩ := owns2_arg hv2
      have E3 := Lib.hid (((E2.out.next hb).and (St.row hv2)).and (St.rd2 hrm))
      clear hb hv2 hrm
      go_wp2_with fail
      rw [allocS_fold]
      have E4 := Lib.hid ((E3.out.next (allocS_below w3 s h1)).and (St.bs (allocS_bs w3 s h1)))
      generalize allocS w3 s h1 = w4 at *
      refine (HX1.out h1 am cm _ (SOwn.rd E4.out.now.2.2.2.2.2.1) E4.out.now.2.1).mono ?_
      rintro e w5 ⟨hx, rfl, ho, hb⟩
      have E5 := Lib.hid ((((E4.out.next hb).and (St.own ho)).and (St.le hb.size)).and (St.le (Nat.le_refl w5.heap.size)))
      clear hb
      clear ho
      obtain ⟨-, -, -, -, -, -, -, -, -, -, ⟨⟨bs_0, bs_1, bs_2, bs_3, bs_4, bs_5, -⟩, bs_l⟩, -, -⟩ := E5.out.now
      go_wp2_with fail
      clear bs_0 bs_1 bs_2 bs_3 bs_4 bs_5 bs_l
      rw [allocS_fold]
      have E6 := Lib.hid ((E5.out.next (allocS_below w5 X hx)).and (St.bs (allocS_bs w5 X hx)))
      generalize allocS w5 X hx = w6 at *
      refine (HX2.out _ E6.out.now.2.2.2.2.2.2.2.2.2.2.2.2.1 E6.out.now.2.2.2.2.2.2.2.2.2.2.1).mono ?_
      rintro e w7 ⟨hy, rfl, ho, hb⟩
      have E7 := Lib.hid ((((E6.out.next hb).and (St.own ho)).and (St.le hb.size)).and (St.le (Nat.le_refl w7.heap.size)))
      clear hb
      clear ho
      obtain ⟨-, -, -, ⟨⟨bx_0, bx_1, bx_2, bx_3, bx_4, bx_5, -⟩, bx_l⟩, -, -, -, -, -, -, -, -, -, -, -, -, -⟩ := E7.out.now
      go_wp2_with fail
      clear bx_0 bx_1 bx_2 bx_3 bx_4 bx_5 bx_l
      rw [allocS_fold]
      have E8 := Lib.hid ((E7.out.next (allocS_below w7 X hy)).and (St.bs (allocS_bs w7 X hy)))
      generalize allocS w7 X hy = w8 at *
      refine (HXS.out hx hy _ (SOwn.rd E8.out.now.2.2.2.2.2.2.2.1) (SOwn.rd E8.out.now.2.2.2.1)).mono ?_
      rintro e w9 ⟨rfl, hb⟩
      have E9 := Lib.hid (E8.out.next hb)
      clear hb
      obtain ⟨-, -, -, -, ⟨⟨bx_0, bx_1, bx_2, bx_3, bx_4, bx_5, -⟩, bx_l⟩, -, -, -, -, -, -, -, -, -, -, -, -, -⟩ := E9.out.now
      go_wp2_with fail
      clear bx_0 bx_1 bx_2 bx_3 bx_4 bx_5 bx_l
      have q1 : w.heap.size < w4.heap.size := E4.out.now.2.2.2.2.2.2.2.1.lt
      have q2 : w3.heap.size < w4.heap.size := E4.out.now.1.lt
      have q3 : w2.heap.size ≤ w4.heap.size := E4.out.now.2.2.2.1
      have q4 : w4.heap.size ≤ w5.heap.size := E5.out.now.2.1
      have q11 : w5.heap.size ≤ w9.heap.size := E9.out.now.2.2.2.2.2.1
      refine (lspoil_any X hx w4.heap.size w5.heap.size w9 E9.out.now.2.2.2.2.2.2.2.1 (by omega) (by omega) (by have := HXL.out; omega) (by have := HXL.out; omega) (by have := HXL.out; omega) (by have := HXL.out; omega)).mono ?_
      rintro e w10 ⟨rfl, hk⟩
      have hB := keeps_below hk E9.out.now.2.2.2.2.2.2.2.2.2.2.2.2.2.2.2.2.2 (by omega)
      have hsz10 : w9.heap.size ≤ w10.heap.size := hk.below.size
      have E10 := Lib.hid ((((((((St.below' hB)).and (St.rd (HS.out.rd.mono hB (Nat.le_refl _)))).and (St.rd2 (HRP.out.mono hB (Nat.le_refl _)))).and (St.bs (keeps_bs hk E9.out.now.2.2.2.2.2.2.2.2.2.2.2.2.2.2.2.1 (by omega)))).and (St.bs (keeps_bs hk E9.out.now.2.2.2.2.2.2.2.2.1 (by omega)))).and (St.own (keeps_own hk E9.out.now.2.2.2.2.2.2.2.2.2.2.2.2.2.1 (by omega)))).and (St.row (keeps_row hk E9.out.now.2.2.2.2.2.2.2.2.2.2.1 (fun b hb => by have := E4.out.now.2.2.1.lt b hb; omega))))
      clear hk hB
      obtain ⟨-, -, ⟨⟨bown_0, bown_1, bown_2, bown_3, bown_4, bown_5, -⟩, bown_l⟩, ⟨⟨bs_0, bs_1, bs_2, bs_3, bs_4, bs_5, -⟩, bs_l⟩, -, -, -⟩ := E10.out.now
      go_wp2_with fail
      clear bs_0 bs_1 bs_2 bs_3 bs_4 bs_5 bs_l bown_0 bown_1 bown_2 bown_3 bown_4 bown_5 bown_l
      refine (HSO.out h1 h _ (SOwn.rd E10.out.now.2.1) E10.out.now.2.2.2.2.2.1).mono ?_
      rintro e w11 ⟨rfl, hb⟩
      have E11 := Lib.hid (E10.out.next hb)
      clear hb
      go_wp2_with fail
      refine (HSP.out am cm _ (Rd2.of_own E11.out.now.1) E11.out.now.2.2.2.2.1).mono ?_
      rintro e w12 ⟨rfl, hb⟩
      have E12 := Lib.hid (E11.out.next hb)
      clear hb
      go_wp2_with fail
      go_ret
      exact ⟨by simp, E12.out.now.2.2.2.2.2.2⟩
  · go_enter Try.func3, Try.ntmps3
    go_wp2_with fail
    rw [allocS_fold]
    refine (HG1.out _).mono ?_
    rintro e w1 ⟨rfl, hb⟩
    have E1 := Lib.hid (E0.out.next hb)
    clear hb
    obtain ⟨-, ⟨⟨bs_0, bs_1, bs_2, bs_3, bs_4, bs_5, -⟩, bs_l⟩, -, -⟩ := E1.out.now
    go_wp2_with fail
    clear bs_0 bs_1 bs_2 bs_3 bs_4 bs_5 bs_l
    refine (refTwin_any s h _ HW.out E1.out.now.2.2.1 HS.out.no).mono ?_
    rintro e w2 ⟨h1, rfl, ho, hb⟩
    have E2 := Lib.hid ((((E1.out.next hb).and (St.own ho)).and (St.le hb.size)).and (St.le (Nat.le_refl w2.heap.size)))
    clear hb
    clear ho
    go_wp2_with (at_builtin; refine wpList_append_copy2 rfl _ _ 28 42 rfl i0 Try.underlying28 hi hz0 hz1 hz2 al cl zl rfl rfl E2.out.now.2.2.2.1 HNL.out (by unfold maxLen; have := HZX.out; omega) (by have := HZX.out; omega) ?_)
    intro v2 w3 hv2 hb
    obtain ⟨am, cm, rfl, -, hrm, -⟩ := owns2_arg hv2
    have E3 := Lib.hid (((E2.out.next hb).and (St.row hv2)).and (St.rd2 hrm))
    clear hb hv2 hrm
    go_wp2_with fail
    rw [allocS_fold]
    have E4 := Lib.hid ((E3.out.next (allocS_below w3 s h1)).and (St.bs (allocS_bs w3 s h1)))
    generalize allocS w3 s h1 = w4 at *
    refine (HX1.out h1 am cm _ (SOwn.rd E4.out.now.2.2.2.2.2.1) E4.out.now.2.1).mono ?_
    rintro e w5 ⟨hx, rfl, ho, hb⟩
    have E5 := Lib.hid ((((E4.out.next hb).and (St.own ho)).and (St.le hb.size)).and (St.le (Nat.le_refl w5.heap.size)))
    clear hb
    clear ho
    obtain ⟨-, -, -, -, -, -, -, -, -, -, ⟨⟨bs_0, bs_1, bs_2, bs_3, bs_4, bs_5, -⟩, bs_l⟩, -, -⟩ := E5.out.now
    go_wp2_with fail
    clear bs_0 bs_1 bs_2 bs_3 bs_4 bs_5 bs_l
    rw [allocS_fold]
    have E6 := Lib.hid ((E5.out.next (allocS_below w5 X hx)).and (St.bs (allocS_bs w5 X hx)))
    generalize allocS w5 X hx = w6 at *
    refine (HX2.out _ E6.out.now.2.2.2.2.2.2.2.2.2.2.2.2.1 E6.out.now.2.2.2.2.2.2.2.2.2.2.1).mono ?_
    rintro e w7 ⟨hy, rfl, ho, hb⟩
    have E7 := Lib.hid ((((E6.out.next hb).and (St.own ho)).and (St.le hb.size)).and (St.le (Nat.le_refl w7.heap.size)))
    clear hb
    clear ho
    obtain ⟨-, -, -, ⟨⟨bx_0, bx_1, bx_2, bx_3, bx_4, bx_5, -⟩, bx_l⟩, -, -, -, -, -, -, -, -, -, -, -, -, -⟩ := E7.out.now
    go_wp2_with fail
    clear bx_0 bx_1 bx_2 bx_3 bx_4 bx_5 bx_l
    rw [allocS_fold]
    have E8 := Lib.hid ((E7.out.next (allocS_below w7 X hy)).and (St.bs (allocS_bs w7 X hy)))
    generalize allocS w7 X hy = w8 at *
    refine (HXS.out hx hy _ (SOwn.rd E8.out.now.2.2.2.2.2.2.2.1) (SOwn.rd E8.out.now.2.2.2.1)).mono ?_
    rintro e w9 ⟨rfl, hb⟩
    have E9 := Lib.hid (E8.out.next hb)
    clear hb
    obtain ⟨-, -, -, -, ⟨⟨bx_0, bx_1, bx_2, bx_3, bx_4, bx_5, -⟩, bx_l⟩, -, -, -, -, -, -, -, -, -, -, -, -, -⟩ := E9.out.now
    go_wp2_with fail
    clear bx_0 bx_1 bx_2 bx_3 bx_4 bx_5 bx_l
    have q1 : w.heap.size < w4.heap.size := E4.out.now.2.2.2.2.2.2.2.1.lt
    have q2 : w3.heap.size < w4.heap.size := E4.out.now.1.lt
    have q3 : w2.heap.size ≤ w4.heap.size := E4.out.now.2.2.2.1
    have q4 : w4.heap.size ≤ w5.heap.size := E5.out.now.2.1
    have q11 : w5.heap.size ≤ w9.heap.size := E9.out.now.2.2.2.2.2.1
    refine (lspoil_any X hx w4.heap.size w5.heap.size w9 E9.out.now.2.2.2.2.2.2.2.1 (by omega) (by omega) (by have := HXL.out; omega) (by have := HXL.out; omega) (by have := HXL.out; omega) (by have := HXL.out; omega)).mono ?_
    rintro e w10 ⟨rfl, hk⟩
    have hB := keeps_below hk E9.out.now.2.2.2.2.2.2.2.2.2.2.2.2.2.2.2.2.2 (by omega)
    have hsz10 : w9.heap.size ≤ w10.heap.size := hk.below.size
    have E10 := Lib.hid ((((((((St.below' hB)).and (St.rd (HS.out.rd.mono hB (Nat.le_refl _)))).and (St.rd2 (HRP.out.mono hB (Nat.le_refl _)))).and (St.bs (keeps_bs hk E9.out.now.2.2.2.2.2.2.2.2.2.2.2.2.2.2.2.1 (by omega)))).and (St.bs (keeps_bs hk E9.out.now.2.2.2.2.2.2.2.2.1 (by omega)))).and (St.own (keeps_own hk E9.out.now.2.2.2.2.2.2.2.2.2.2.2.2.2.1 (by omega)))).and (St.row (keeps_row hk E9.out.now.2.2.2.2.2.2.2.2.2.2.1 (fun b hb => by have := E4.out.now.2.2.1.lt b hb; omega))))
    clear hk hB
    obtain ⟨-, -, ⟨⟨bown_0, bown_1, bown_2, bown_3, bown_4, bown_5, -⟩, bown_l⟩, ⟨⟨bs_0, bs_1, bs_2, bs_3, bs_4, bs_5, -⟩, bs_l⟩, -, -, -⟩ := E10.out.now
    go_wp2_with fail
    clear bs_0 bs_1 bs_2 bs_3 bs_4 bs_5 bs_l bown_0 bown_1 bown_2 bown_3 bown_4 bown_5 bown_l
    refine (HSO.out h1 h _ (SOwn.rd E10.out.now.2.1) E10.out.now.2.2.2.2.2.1).mono ?_
    rintro e w11 ⟨rfl, hb⟩
    have E11 := Lib.hid (E10.out.next hb)
    clear hb
    go_wp2_with fail
    refine (HSP.out am cm _ (Rd2.of_own E11.out.now.1) E11.out.now.2.2.2.2.1).mono ?_
    rintro e w12 ⟨rfl, hb⟩
    have E12 := Lib.hid (E11.out.next hb)
    clear hb
    go_wp2_with fail
    go_ret
    exact ⟨by simp, E12.out.now.2.2.2.2.2.2⟩
end Go.Proofs.Ytfokbkkgokioeaa.Lay
