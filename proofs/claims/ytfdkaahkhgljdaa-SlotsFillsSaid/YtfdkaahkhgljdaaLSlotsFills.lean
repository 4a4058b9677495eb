/- The law SlotsFills: its walk. -/
import Derived.Test.YtfdkaahkhgljdaaMap
set_option linter.unusedSimpArgs false
set_option linter.unusedVariables false
namespace Go.Proofs.Ytfdkaahkhgljdaa.Slo
open Go.RowKit Go.Shelf Go.Sort Go.Proofs.Ytfdkaahkhgljdaa Go.Proofs.Ytfdkaahkhgljdaa.Occ Go.Proofs.Ytfdkaahkhgljdaa.Frac
attribute [local go_sem] sval Oper.semAt_some

theorem Rd.of_own {w : World} {base n c : Nat} {e : TypeId} {a : Option Addr} {zs : List Int} (h : w.ownsRow base e 1 (.slice a n c) n (zs.map (Value.int .i64))) : Rd .i64 w a zs := by
  obtain ⟨a', c', e, -, hr, -⟩ := owns_arg h
  cases e; exact hr
theorem Rd2.of_own {w : World} {base n c : Nat} {e : TypeId} {a : Option Addr} {zs : List (Int × Int)} (h : w.ownsRow base e 2 (.slice a n c) n (pcells zs)) : Rd2 w a zs := by
  obtain ⟨a', c', e, -, hr, -⟩ := owns2_arg h
  cases e; exact hr

set_option maxRecDepth 100000 in
set_option maxHeartbeats 16000000 in
theorem slotsFills (x : In) (f t : Int) (ax : Option Addr) (lx cx : Nat) (zx : List Int) (al : Option Addr) (ll cl : Nat) (zl : List (Int × Int)) (w : World) (wx : x.Ok w) (wf : (Lit.int .i64 f).wf = true) (wt : (Lit.int .i64 t).wf = true)
    (rx : Opn.IsRow .i64 w ax lx cx zx) (rl : Opn.IsRow2 w al ll cl zl) :
    Calls Try.prog 3 #[x.val, .agg #[.int .i64 f, .int .i64 t], .slice ax lx cx, .slice al ll cl] w fun e w' => e = .returned (.bool true) ∧ Below w.heap.size w w' := by
  obtain ⟨s, h, e1, S⟩ := wx.open
  obtain ⟨xs, ⟨rfl, hrx, -, hnx, hcx, hbx⟩⟩ := argK_of rx
  obtain ⟨rfl, hrp, hnl, hcl, hbl⟩ := argP_of rl
  rw [e1]
  have HS := Lib.hid S
  have HRX := Lib.hid hrx
  have HRP := Lib.hid hrp
  have HNX := Lib.hid hnx
  have HNL := Lib.hid hnl
  have HLX : Hid (xs.length ≤ 9223372036854775807) := Lib.hid (by omega)
  have HLP : Hid (zl.length ≤ 9223372036854775807) := Lib.hid (by omega)
  clear S e1 wx wf wt x hrx hrp rx rl hcx hbx hcl hbl hnx hnl
  have HG1 := Lib.hid (fun w1 => Great_any s h 300 w1)
  have E0 := Lib.hid (((((((St.below' (in2_below w s h f t))).and (St.rd (HS.out.rd.next (in2_below w s h f t)))).and (St.bs (in2_bs w s h f t))).and (St.bp (in2_bp w s h f t))).and (St.rdk (HRX.out.mono (in2_below w s h f t) (Nat.le_refl _)))).and (St.rd2 (HRP.out.mono (in2_below w s h f t) (Nat.le_refl _))))
  cases hg1 : greatB s 300
  case true =>
    rw [hg1] at HG1
    clear hg1
    go_enter Try.func3, Try.ntmps3
    go_wp2_with fail
    rw [allocS_fold, alloc2_fold, show alloc2 (allocS w s h) f t = in2 w s h f t from rfl]
    refine (HG1.out _).mono ?_
    rintro e w1 ⟨rfl, hb⟩
    have E1 := Lib.hid (E0.out.next hb)
    clear hb
    go_wp2
    go_ret
    exact ⟨rfl, E1.out.now.2.2.2.2.2⟩
  rw [hg1] at HG1
  have hls := greatB_no (m := 300) hg1
  obtain ⟨hl1, hl2, hl3, hl4⟩ := hls
  have HW := Lib.hid (HS.out.wf ⟨by omega, by omega, by omega, by omega⟩)
  have HSO := Lib.hid (fun h1 h2 w1 R1 R2 => same_refl s h1 h2 w1 R1 R2 ⟨by omega, by omega, by omega, by omega⟩)
  clear hg1
  by_cases hx3 : 300 < xs.length
  · go_enter Try.func3, Try.ntmps3
    go_wp2_with fail
    rw [allocS_fold, alloc2_fold, show alloc2 (allocS w s h) f t = in2 w s h f t from rfl]
    refine (HG1.out _).mono ?_
    rintro e w1 ⟨rfl, hb⟩
    have E1 := Lib.hid (E0.out.next hb)
    clear hb
    go_wp2
    go_ret
    exact ⟨rfl, E1.out.now.2.2.2.2.2⟩
  by_cases hp3 : 300 < zl.length
  · go_enter Try.func3, Try.ntmps3
    go_wp2_with fail
    rw [allocS_fold, alloc2_fold, show alloc2 (allocS w s h) f t = in2 w s h f t from rfl]
    refine (HG1.out _).mono ?_
    rintro e w1 ⟨rfl, hb⟩
    have E1 := Lib.hid (E0.out.next hb)
    clear hb
    go_wp2
    go_ret
    exact ⟨rfl, E1.out.now.2.2.2.2.2⟩
  have HF1 := Lib.hid (fun h1 ak ck am cm w1 (R : SRd w1 s h1) (RX : Rd .i64 w1 ak xs) (RL : Rd2 w1 am zl) => Fill_any s h1 f t ak ck xs am cm zl w1 HW.out R RX RL HLX.out HLP.out)
  have HF2 := Lib.hid (fun w1 (R : SRd w1 s h) (RX : Rd .i64 w1 ax xs) (RL : Rd2 w1 al zl) => refFill_any s h f t ax cx xs al cl zl w1 HW.out R HS.out.no RX RL (by omega) (by omega))
  have hle := lenLe_fillSV s f t xs zl
  generalize fillSV s f t xs zl = vX at *
  obtain ⟨X, ex⟩ := vX
  dsimp only at hle
  have HXL : Hid (X.ws.length ≤ 300 ∧ X.ks.length ≤ 300 ∧ X.vs.length ≤ 300 ∧ X.cs.length ≤ 300) := Lib.hid ⟨Nat.le_trans hle.w hl1, Nat.le_trans hle.k hl2, Nat.le_trans hle.v hl3, Nat.le_trans hle.c hl4⟩
  have HXS := Lib.hid (fun h1 h2 w1 R1 R2 => same_refl X h1 h2 w1 R1 R2 ⟨by have := HXL.out; omega, by have := HXL.out; omega, by have := HXL.out; omega, by have := HXL.out; omega⟩)
  clear hle
  have HSI := Lib.hid (fun ak ck w1 (R1 : Rd .i64 w1 ak xs) (R2 : Rd .i64 w1 ax xs) => sameInts_any ak ax ck cx xs xs w1 R1 R2 HLX.out HLX.out)
  rw [show decide (xs = xs) = true by simp] at HSI
  have HSP := Lib.hid (fun am cm w1 (R1 : Rd2 w1 am zl) (R2 : Rd2 w1 al zl) => samePairs_any am al cm cl zl zl w1 R1 R2 (by omega) (by omega))
  rw [show decide (zl = zl) = true by simp] at HSP
  have HZX : Hid (xs.length ≤ 300 ∧ zl.length ≤ 300) := Lib.hid ⟨by omega, by omega⟩
  obtain ⟨i0, hi, hz0, hz1, hz2⟩ : ∃ i0, Try.prog.info? 43 = some i0 ∧ i0.zero = some (.agg #[.int .i64 0, .int .i64 0]) ∧ i0.size = 2 ∧ i0.bytes = 16 := by
    have h := infoPr
    cases hh : Try.prog.info? 43 with
    | none => rw [hh] at h; simp at h
    | some i0 => rw [hh] at h; simp at h; exact ⟨i0, rfl, h⟩
  obtain ⟨k0, ki, kz0, kz1, kz2⟩ := info_parts infoI
  clear hl1 hl2 hl3 hl4
  go_enter Try.func3, Try.ntmps3
  go_wp2_with fail
  rw [allocS_fold, alloc2_fold, show alloc2 (allocS w s h) f t = in2 w s h f t from rfl]
  refine (HG1.out _).mono ?_
  rintro e w1 ⟨rfl, hb⟩
  have E1 := Lib.hid (E0.out.next hb)
  clear hb
  obtain ⟨-, -, -, ⟨⟨bs_0, bs_1, bs_2, bs_3, bs_4, bs_5, -⟩, bs_l⟩, -, -⟩ := E1.out.now
  go_wp2_with fail
  clear bs_0 bs_1 bs_2 bs_3 bs_4 bs_5 bs_l
  refine (refTwin_any s h _ HW.out E1.out.now.2.2.2.2.1 HS.out.no).mono ?_
  rintro e w2 ⟨h1, rfl, ho, hb⟩
  have E2 := Lib.hid ((((E1.out.next hb).and (St.own ho)).and (St.le hb.size)).and (St.le (Nat.le_refl w2.heap.size)))
  clear hb
  clear ho
  go_wp2_with (at_builtin; refine wpList_append_copy (k := .i64) rfl _ _ 24 3 rfl k0 8 Try.underlying24 ki kz0 kz1 kz2 ax cx xs rfl rfl E2.out.now.2.2.2.2.1 HNX.out (by unfold maxLen; have := HZX.out; omega) (by have := HZX.out; omega) ?_)
  intro v1 w3 hv1 hb
  obtain ⟨ak, ck, rfl, -, hrk, -⟩ := owns_arg hv1
  have E3 := Lib.hid (((E2.out.next hb).and (St.row hv1)).and (St.rdk hrk))
  clear hb hv1 hrk
  go_wp2_with (at_builtin; refine wpList_append_copy2 rfl _ _ 29 43 rfl i0 Try.underlying29 hi hz0 hz1 hz2 al cl zl rfl rfl E3.out.now.2.2.2.2.2.1 HNL.out (by unfold maxLen; have := HZX.out; omega) (by have := HZX.out; omega) ?_)
  intro v2 w4 hv2 hb
  obtain ⟨am, cm, rfl, -, hrm, -⟩ := owns2_arg hv2
  have E4 := Lib.hid (((E3.out.next hb).and (St.row hv2)).and (St.rd2 hrm))
  clear hb hv2 hrm
  obtain ⟨-, -, -, -, -, -, -, -, -, ⟨⟨bt_0, bt_1, -⟩, bt_l⟩, -, -, -⟩ := E4.out.now
  go_wp2_with fail
  clear bt_0 bt_1 bt_l
  rw [allocS_fold]
  have E5 := Lib.hid ((E4.out.next (allocS_below w4 s h1)).and (St.bs (allocS_bs w4 s h1)))
  generalize allocS w4 s h1 = w5 at *
  refine (HF1.out h1 ak ck am cm _ (SOwn.rd E5.out.now.2.2.2.2.2.2.2.1) E5.out.now.2.2.2.1 E5.out.now.2.1).mono ?_
  rintro e w6 ⟨hx, rfl, ho, hb⟩
  have E6 := Lib.hid ((((E5.out.next hb).and (St.own ho)).and (St.le hb.size)).and (St.le (Nat.le_refl w6.heap.size)))
  clear hb
  clear ho
  obtain ⟨-, -, -, -, -, -, -, -, -, -, -, -, -, ⟨⟨bt_0, bt_1, -⟩, bt_l⟩, ⟨⟨bs_0, bs_1, bs_2, bs_3, bs_4, bs_5, -⟩, bs_l⟩, -, -⟩ := E6.out.now
  go_wp2_with fail
  clear bs_0 bs_1 bs_2 bs_3 bs_4 bs_5 bs_l bt_0 bt_1 bt_l
  rw [allocS_fold]
  have E7 := Lib.hid ((E6.out.next (allocS_below w6 X hx)).and (St.bs (allocS_bs w6 X hx)))
  generalize allocS w6 X hx = w7 at *
  refine (HF2.out _ E7.out.now.2.2.2.2.2.2.2.2.2.2.2.2.2.2.2.2.1 E7.out.now.2.2.2.2.2.2.2.2.2.2.2.2.2.1 E7.out.now.2.2.2.2.2.2.2.2.2.2.2.2.1).mono ?_
  rintro e w8 ⟨hy, rfl, ho, hb⟩
  have E8 := Lib.hid ((((E7.out.next hb).and (St.own ho)).and (St.le hb.size)).and (St.le (Nat.le_refl w8.heap.size)))
  clear hb
  clear ho
  obtain ⟨-, -, -, ⟨⟨bx_0, bx_1, bx_2, bx_3, bx_4, bx_5, -⟩, bx_l⟩, -, -, -, -, -, -, -, -, -, -, -, -, -, -, -, -, -⟩ := E8.out.now
  go_wp2_with fail
  clear bx_0 bx_1 bx_2 bx_3 bx_4 bx_5 bx_l
  rw [allocS_fold]
  have E9 := Lib.hid ((E8.out.next (allocS_below w8 X hy)).and (St.bs (allocS_bs w8 X hy)))
  generalize allocS w8 X hy = w9 at *
  refine (HXS.out hx hy _ (SOwn.rd E9.out.now.2.2.2.2.2.2.2.1) (SOwn.rd E9.out.now.2.2.2.1)).mono ?_
  rintro e w10 ⟨rfl, hb⟩
  have E10 := Lib.hid (E9.out.next hb)
  clear hb
  obtain ⟨-, -, -, -, ⟨⟨bx_0, bx_1, bx_2, bx_3, bx_4, bx_5, -⟩, bx_l⟩, -, -, -, -, -, -, -, -, -, -, -, -, -, -, -, -, -⟩ := E10.out.now
  go_wp2_with fail
  clear bx_0 bx_1 bx_2 bx_3 bx_4 bx_5 bx_l
  have q1 : w.heap.size < w5.heap.size := E5.out.now.2.2.2.2.2.2.2.2.2.2.2.1.lt
  have q2 : w4.heap.size < w5.heap.size := E5.out.now.1.lt
  have q3 : w2.heap.size ≤ w5.heap.size := E5.out.now.2.2.2.2.2.1
  have q4 : w5.heap.size ≤ w6.heap.size := E6.out.now.2.1
  have q11 : w6.heap.size ≤ w10.heap.size := E10.out.now.2.2.2.2.2.1
  refine (spoil_any X hx w5.heap.size w6.heap.size w10 E10.out.now.2.2.2.2.2.2.2.1 (by omega) (by omega) (by have := HXL.out; omega) (by have := HXL.out; omega) (by have := HXL.out; omega) (by have := HXL.out; omega)).mono ?_
  rintro e w11 ⟨rfl, hk⟩
  have hB := keeps_below hk E10.out.now.2.2.2.2.2.2.2.2.2.2.2.2.2.2.2.2.2.2.2.2.2 (by omega)
  have hsz11 : w10.heap.size ≤ w11.heap.size := hk.below.size
  have E11 := Lib.hid ((((((((((St.below' hB)).and (St.rd (HS.out.rd.mono hB (Nat.le_refl _)))).and (St.rdk (HRX.out.mono hB (Nat.le_refl _)))).and (St.rd2 (HRP.out.mono hB (Nat.le_refl _)))).and (St.bs (keeps_bs hk E10.out.now.2.2.2.2.2.2.2.2.2.2.2.2.2.2.2.2.2.2.2.1 (by omega)))).and (St.bs (keeps_bs hk E10.out.now.2.2.2.2.2.2.2.2.1 (by omega)))).and (St.own (keeps_own hk E10.out.now.2.2.2.2.2.2.2.2.2.2.2.2.2.2.2.1 (by omega)))).and (St.row (keeps_row hk E10.out.now.2.2.2.2.2.2.2.2.2.2.2.2.1 (fun b hb => by have := E5.out.now.2.2.2.2.1.lt b hb; omega)))).and (St.row (keeps_row hk E10.out.now.2.2.2.2.2.2.2.2.2.2.1 (fun b hb => by have := E5.out.now.2.2.1.lt b hb; omega))))
  clear hk hB
  obtain ⟨-, -, -, ⟨⟨bown_0, bown_1, bown_2, bown_3, bown_4, bown_5, -⟩, bown_l⟩, ⟨⟨bs_0, bs_1, bs_2, bs_3, bs_4, bs_5, -⟩, bs_l⟩, -, -, -, -⟩ := E11.out.now
  go_wp2_with fail
  clear bs_0 bs_1 bs_2 bs_3 bs_4 bs_5 bs_l bown_0 bown_1 bown_2 bown_3 bown_4 bown_5 bown_l
  refine (HSO.out h1 h _ (SOwn.rd E11.out.now.2.2.1) E11.out.now.2.2.2.2.2.2.2.1).mono ?_
  rintro e w12 ⟨rfl, hb⟩
  have E12 := Lib.hid (E11.out.next hb)
  clear hb
  go_wp2_with fail
  refine (HSI.out ak ck _ (Rd.of_own E12.out.now.2.1) E12.out.now.2.2.2.2.2.2.1).mono ?_
  rintro e w13 ⟨rfl, hb⟩
  have E13 := Lib.hid (E12.out.next hb)
  clear hb
  go_wp2_with fail
  refine (HSP.out am cm _ (Rd2.of_own E13.out.now.1) E13.out.now.2.2.2.2.2.1).mono ?_
  rintro e w14 ⟨rfl, hb⟩
  have E14 := Lib.hid (E13.out.next hb)
  clear hb
  go_wp2_with fail
  go_ret
  exact ⟨by simp, E14.out.now.2.2.2.2.2.2.2.2⟩
end Go.Proofs.Ytfdkaahkhgljdaa.Slo
