/- Contracts of the functions of package conf, and of the document's answer for it. -/
import Derived.Test.YthgeghdegpgijaaFracIs
import Derived.Test.YthgeghdegpgijaaConfPlain
import Derived.Lib.QuietBelow
import Derived.StillTailTactics
namespace Go.Proofs.Ythgeghdegpgijaa.Conf
open Go.RowKit Go.Proofs.Ythgeghdegpgijaa Go.Proofs.Ythgeghdegpgijaa.Frac

theorem mixed : Try.prog.follows .mixedOrders = true := by kernel_rfl

/-- A region that draws its order: what only reads comes first, the rest in its forced order. -/
theorem region_still_tail {P : Program} {id : Nat} {Q : Exit → Act → World → Prop} {a : Act} {w : World} {l : List Oper} (n : Nat) (hm : P.follows .mixedOrders = true) (hB : Region.lexTailB .any l.toArray n = true)
    (h : wpStill P l.toArray w.drew (fun a' => wpList P l.toArray Q (l.drop n) a' w.drew) (l.take n) a) : (Code.region id l.toArray true).wp P Q a w := wp_region_still_tail n hm hB h

set_option maxHeartbeats 400000 in
theorem all_any (b off cap : Nat) (zs : List Bool) (w : World) (hl : zs.length ≤ 9223372036854775807) (hc : ∀ i, i < zs.length → w.cell? ⟨b, off + i, Option.none⟩ = some (.bool (zs.getD i true))) :
    Calls Try.prog 31 #[.slice (some ⟨b, off, Option.none⟩) zs.length cap] w fun e w' => e = .returned (.bool (zs.all id)) ∧ w = w' := by
  go_enter Try.func31, Try.ntmps31
  go_wp2
  go_loop [4, 7] (fun _ i => ∃ k : Nat, k ≤ zs.length ∧ i = .int .i64 k ∧ (zs.take k).all id = true) (fun _ i => zs.length - (intOf i).toNat)
  case atStart => exact ⟨0, Nat.zero_le _, rfl, rfl⟩
  case round =>
    obtain ⟨k, hk, rfl, hall⟩ := hrel
    have Hall := Lib.hid hall
    clear hall
    by_cases hlt : k < zs.length
    · have hcell := hc k hlt
      have hs : (zs.take (k + 1)).all id = ((zs.take k).all id && zs.getD k true) := by
        rw [List.take_succ_eq_append_getElem hlt, List.all_append]
        simp [List.getD_eq_getElem?_getD, hlt]
      have Hs := Lib.hid hs
      have hno : zs.getD k true = false → zs.all id = false := fun h => by
        rw [List.all_eq_false]
        refine ⟨zs[k], List.getElem_mem _, ?_⟩
        simp [List.getD_eq_getElem?_getD, hlt] at h
        simp [h]
      have Hno := Lib.hid hno
      clear hc hs hno
      generalize zs.getD k true = z at hcell Hs Hno
      cases z
      · have Hno := Lib.hid (Hno.out rfl)
        go_wp2
        go_ret
        exact ⟨ret_bool (Hno.out trivial).symm, rfl⟩
      · go_wp2
        go_round
        case rel => exact ⟨k + 1, by omega, by go_num, by rw [Hs.out, Hall.out]; rfl⟩
        case measure => simp [intOf]; omega
    · have : k = zs.length := by omega
      subst this
      clear hc
      go_wp2
      go_ret
      exact ⟨ret_bool (by have := Hall.out; rw [List.take_length] at this; exact this.symm), rfl⟩

set_option maxHeartbeats 400000 in
theorem power_any (n from_ to_ : Int) (w : World) (wn : (Lit.int .i64 n).wf = true) :
    Calls Try.prog 27 #[.int .i64 n, .int .i64 from_, .int .i64 to_] w fun e w' => e = .returned (.bool (powIn n from_ to_)) ∧ w = w' := by
  obtain ⟨r, hr⟩ : ∃ r, powB n = r := ⟨_, rfl⟩
  have HP := fun w => Lib.hid (show Calls Try.prog 39 #[.int .i64 n] w fun e w' => e = .returned (.bool r) ∧ w = w' by rw [← hr]; exact Frac.power_any n w wn)
  have Hr := Lib.hid hr
  clear hr
  by_cases h1 : from_ ≤ n <;> by_cases h2 : n ≤ to_
  all_goals
    have HV := Lib.hid (show powIn n from_ to_ = (decide (from_ ≤ n) && decide (n ≤ to_) && r) by unfold powIn; rw [Hr.out])
    go_enter Try.func27, Try.ntmps27
    go_wp2_with (go_at_call 39; refine ((HP _).out).mono ?_; rintro e w' ⟨rfl, rfl⟩)
    go_ret
    exact ⟨ret_bool (by rw [HV.out]; simp; omega), rfl⟩

theorem all_is (b cap : Nat) (zs : List Bool) (w : World) (r : Bool) (hl : zs.length ≤ 9223372036854775807) (hr : zs.all id = r) (hc : ∀ i, i < zs.length → w.cell? ⟨b, i, Option.none⟩ = some (.bool (zs.getD i true))) :
    Calls Try.prog 31 #[.slice (some ⟨b, 0, Option.none⟩) zs.length cap] w fun e w' => e = .returned (.bool r) ∧ w = w' := by
  subst hr
  exact all_any b 0 cap zs w hl (fun i hi => by rw [Nat.zero_add]; exact hc i hi)

theorem downV_height (x : Int) : (downV x).1 = ((x.toNat.log2 : Nat) : Int) := by
  by_cases h : x < 1
  · rw [downV_no h, show x.toNat = 0 by omega]; rfl
  · rw [downV_yes h]

set_option maxHeartbeats 400000 in
theorem height_any (c : Cfg) (size : Int) (w : World) (hs : 1 ≤ c.seg) (h0 : 0 ≤ size) (h1 : size ≤ 9223372036854775807) :
    Calls Try.prog 28 #[.agg #[.int .u8 c.tag, .int .i64 c.most, .int .i64 c.seg, .int .i64 c.least, .int .i64 c.den, .int .i64 c.ll, .int .i64 c.rl, .int .i64 c.rh, .int .i64 c.lh], .int .i64 size] w fun e w' => e = .returned (.int .i64 (heightV c size)) ∧ Below w.heap.size w w' := by
  have hw : (Lit.int .i64 (size / c.seg)).wf = true := by
    have := Int.ediv_nonneg h0 (show 0 ≤ c.seg by omega)
    have := Int.ediv_le_self c.seg h0
    simp [Lit.wf, IntKind.min, IntKind.max, IntKind.signed, IntKind.bits]; omega
  obtain ⟨r, e, hd⟩ : ∃ r e, downV (size / c.seg) = (r, e) := ⟨_, _, rfl⟩
  have hr : r = heightV c size := by have := downV_height (size / c.seg); rw [hd] at this; exact this
  have hD := fun w => Frac.down_any (size / c.seg) w hw
  rw [hd] at hD
  have HD := Lib.hid hD
  have Hr := Lib.hid hr
  clear hD hr hd hw
  go_enter Try.func28, Try.ntmps28
  go_wp2_with (go_at_call 40; refine (HD.out _).mono ?_; rintro e w' ⟨rfl, rfl⟩)
  go_ret
  exact ⟨ret_int Hr.out, (Below.refl _ _).alloc (Nat.le_refl _) _⟩

def TakesJ (c : Cfg) (n : Int) (w : World) (a' : Act) (w' : World) : Prop :=
  ∃ (size : Int) (u6 u7 u8 u9 u10 u11 u12 u13 u14 u15 u16 u17 u18 u19 u20 u21 u22 u23 : Value), a' = { tmps := #[.agg #[.int .u8 c.tag, .int .i64 c.most, .int .i64 c.seg, .int .i64 c.least, .int .i64 c.den, .int .i64 c.ll, .int .i64 c.rl, .int .i64 c.rh, .int .i64 c.lh], .int .i64 n, .pointer (some ⟨w.heap.size, 0, Option.none⟩), undef, .int .i64 0, .int .i64 size, u6, u7, u8, u9, u10, u11, u12, u13, u14, u15, u16, u17, u18, u19, u20, u21, u22, u23, undef], defers := [] } ∧ Below (w.heap.size + 1) (w.alloc (.cells #[.int .u8 c.tag, .int .i64 c.most, .int .i64 c.seg, .int .i64 c.least, .int .i64 c.den, .int .i64 c.ll, .int .i64 c.rl, .int .i64 c.rh, .int .i64 c.lh] 23)) w' ∧ TakesUnder c n size
def TakesM (a' : Act) (_ : World) : Nat := (65537 - intOf (a'.tmps.getD 5 undef)).toNat

set_option maxRecDepth 100000 in
set_option maxHeartbeats 1000000 in
theorem takes_any (c : Cfg) (n : Int) (w : World) (F : c.Fine) (hn : 0 ≤ n) (hm : n ≤ 16384) :
    Calls Try.prog 24 #[.agg #[.int .u8 c.tag, .int .i64 c.most, .int .i64 c.seg, .int .i64 c.least, .int .i64 c.den, .int .i64 c.ll, .int .i64 c.rl, .int .i64 c.rh, .int .i64 c.lh], .int .i64 n] w fun e w' => e = .returned (.int .i64 (takesV c n)) ∧ Below w.heap.size w w' := by
  have l1 := F.l1
  have l2 := F.l2
  have s1 := F.s1
  have HF := Lib.hid F
  go_enter Try.func24, Try.ntmps24
  go_wp2
  refine wp_scope_jumps 0 (TakesJ c n w) TakesM rfl ?_ ?_
  · have HU := Lib.hid (takesUnder_start F hm)
    obtain ⟨r, hcr, hway⟩ := cross_takes F hn hm (show 4 ≤ c.least by omega) (show c.least ≤ 65536 by omega)
    have HC := Lib.hid (fun w => Frac.cross_is n c.least c.rh c.den w r 0 hcr)
    clear hcr
    rcases hway with ⟨hr, ho⟩ | ⟨hr, ho⟩
    · have hgo := takesUnder_go F hn hm HU.out ho
      have hlt := hgo.2
      have HG := Lib.hid hgo.1
      clear hgo ho
      go_wp2_with fail
      go_step3
      go_wp2_with fail
      refine (HC.out _).mono ?_
      rintro e w' ⟨rfl, hb⟩
      replace hb : Below (w.heap.size + 1) (w.alloc (.cells #[.int .u8 c.tag, .int .i64 c.most, .int .i64 c.seg, .int .i64 c.least, .int .i64 c.den, .int .i64 c.ll, .int .i64 c.rl, .int .i64 c.rh, .int .i64 c.lh] 23)) w' := hb.mono (by simp)
      go_wp2
      go_step3
      refine ⟨rfl, c.least * 2, _, _, _, _, _, _, _, _, _, _, _, _, _, _, _, _, _, _, rfl, hb, by rw [Int.mul_comm]; exact HG.out⟩
    · have hstop := Lib.hid (takesUnder_stop HU.out ho)
      clear ho
      go_wp2_with fail
      go_step3
      go_wp2_with fail
      refine (HC.out _).mono ?_
      rintro e w' ⟨rfl, hb⟩
      replace hb : Below (w.heap.size + 1) (w.alloc (.cells #[.int .u8 c.tag, .int .i64 c.most, .int .i64 c.seg, .int .i64 c.least, .int .i64 c.den, .int .i64 c.ll, .int .i64 c.rl, .int .i64 c.rh, .int .i64 c.lh] 23)) w' := hb.mono (by simp)
      go_wp2
      simp only [Exit.jump]
      go_ret
      exact ⟨ret_int hstop.out, ((Below.refl _ _).alloc (Nat.le_refl _) _).trans (hb.mono (by omega))⟩
  · rintro a' wr ⟨size, u6, u7, u8, u9, u10, u11, u12, u13, u14, u15, u16, u17, u18, u19, u20, u21, u22, u23, rfl, hB, hU⟩
    have HU := Lib.hid hU
    have b1 : 4 ≤ size := by obtain ⟨f, _, _, h3, h4⟩ := hU; exact h3
    have b2 : size ≤ 65536 := by obtain ⟨f, _, _, h3, h4⟩ := hU; exact h4
    clear hU
    have c7 : wr.cell? ⟨w.heap.size, 7, Option.none⟩ = some (.int .i64 c.rh) := by rw [hB.cell (p := ⟨w.heap.size, 7, Option.none⟩) (by simp)]; go_simp
    have c4 : wr.cell? ⟨w.heap.size, 4, Option.none⟩ = some (.int .i64 c.den) := by rw [hB.cell (p := ⟨w.heap.size, 4, Option.none⟩) (by simp)]; go_simp
    obtain ⟨r, hcr, hway⟩ := cross_takes F hn hm (show 4 ≤ size by omega) (show size ≤ 65536 by omega)
    have HC := Lib.hid (fun w => Frac.cross_is n size c.rh c.den w r 0 hcr)
    clear hcr
    rcases hway with ⟨hr, ho⟩ | ⟨hr, ho⟩
    · have hgo := takesUnder_go F hn hm HU.out ho
      have hlt := hgo.2
      have HG := Lib.hid hgo.1
      clear hgo ho
      go_wp2_with fail
      refine (HC.out _).mono ?_
      rintro e w' ⟨rfl, hb⟩
      replace hb : Below (w.heap.size + 1) (w.alloc (.cells #[.int .u8 c.tag, .int .i64 c.most, .int .i64 c.seg, .int .i64 c.least, .int .i64 c.den, .int .i64 c.ll, .int .i64 c.rl, .int .i64 c.rh, .int .i64 c.lh] 23)) w' := hB.trans (hb.mono (by have := hB.size; simp at this; omega))
      go_wp2
      go_step3
      refine ⟨rfl, ⟨size * 2, _, _, _, _, _, _, _, _, _, _, _, _, _, _, _, _, _, _, rfl, hb, by rw [Int.mul_comm]; exact HG.out⟩, by simp [TakesM, intOf]; omega⟩
    · have hstop := Lib.hid (takesUnder_stop HU.out ho)
      clear ho
      go_wp2_with fail
      refine (HC.out _).mono ?_
      rintro e w' ⟨rfl, hb⟩
      replace hb : Below (w.heap.size + 1) (w.alloc (.cells #[.int .u8 c.tag, .int .i64 c.most, .int .i64 c.seg, .int .i64 c.least, .int .i64 c.den, .int .i64 c.ll, .int .i64 c.rl, .int .i64 c.rh, .int .i64 c.lh] 23)) w' := hB.trans (hb.mono (by have := hB.size; simp at this; omega))
      go_wp2
      simp only [Exit.jump]
      go_ret
      exact ⟨ret_int hstop.out, ((Below.refl _ _).alloc (Nat.le_refl _) _).trans (hb.mono (by omega))⟩

def checkV (c : Cfg) : Int := if okB c = true then 0 else 50

/-- The fields fit their kinds. -/
structure Cfg.Wf (c : Cfg) : Prop where
  tag : (Lit.int .u8 c.tag).wf = true
  most : (Lit.int .i64 c.most).wf = true
  seg : (Lit.int .i64 c.seg).wf = true
  least : (Lit.int .i64 c.least).wf = true
  den : (Lit.int .i64 c.den).wf = true
  ll : (Lit.int .i64 c.ll).wf = true
  rl : (Lit.int .i64 c.rl).wf = true
  rh : (Lit.int .i64 c.rh).wf = true
  lh : (Lit.int .i64 c.lh).wf = true

theorem sizes_all (c : Cfg) : [decide (1 ≤ c.tag), decide (c.tag ≤ 3), decide (1 ≤ c.most), decide (c.most ≤ 16384), powIn c.seg 4 64, powIn c.least c.seg 256, decide (1 ≤ c.den), decide (c.den ≤ 64)].all id = sizesB c := by
  simp [sizesB, Bool.and_assoc]
theorem parts_all (c : Cfg) : [decide (0 ≤ c.ll), decide (c.ll < c.rl), decide (c.rl < c.rh), decide (c.rh < c.lh), decide (c.lh ≤ c.den)].all id = partsB c := by
  simp [partsB, Bool.and_assoc]
theorem rest_all (c : Cfg) : [decide (c.den ≤ 2 * c.rh), decide (8 * c.rl ≤ c.den), decide (2 * c.den ≤ c.rl * c.least)].all id = restB c := by
  simp [restB, Bool.and_assoc]

theorem checkV_no {c : Cfg} (h : okB c = false) : checkV c = 50 := by unfold checkV; rw [h]; rfl
theorem checkV_yes {c : Cfg} (h : okB c = true) : checkV c = 0 := by unfold checkV; rw [if_pos h]

set_option maxRecDepth 100000 in
set_option maxHeartbeats 4000000 in
theorem check_bad1 (c : Cfg) (w : World) (W : c.Wf) (h : sizesB c = false ∨ partsB c = false) :
    Calls Try.prog 13 #[.agg #[.int .u8 c.tag, .int .i64 c.most, .int .i64 c.seg, .int .i64 c.least, .int .i64 c.den, .int .i64 c.ll, .int .i64 c.rl, .int .i64 c.rh, .int .i64 c.lh]] w fun e w' => e = .returned (.int .i64 50) ∧ Below w.heap.size w w' := by
  obtain ⟨s, hs⟩ : ∃ s, sizesB c = s := ⟨_, rfl⟩
  obtain ⟨p, hp⟩ : ∃ p, partsB c = p := ⟨_, rfl⟩
  have HS := Lib.hid ((sizes_all c).trans hs)
  have HP := Lib.hid ((parts_all c).trans hp)
  have HW := Lib.hid W
  have hsp : (s = false) ∨ (s = true ∧ p = false) := by rw [hs, hp] at h; cases s <;> simp_all
  clear hs hp h
  rcases hsp with rfl | ⟨rfl, rfl⟩
  all_goals
    go_enter Try.func13, Try.ntmps13
    go_wp2
    refine region_still_tail 26 mixed (by kernel_rfl) ?_
    simp only [List.take_succ_cons, List.take_zero, List.drop_succ_cons, List.drop_zero]
    repeat still_step
    still_call ((power_any _ _ _ _ HW.out.seg).mono fun _ _ h => ⟨h.1, h.2.symm⟩)
    repeat still_step
    still_call ((power_any _ _ _ _ HW.out.least).mono fun _ _ h => ⟨h.1, h.2.symm⟩)
    repeat still_step
    refine wpStill_nil ?_
    go_wp2_with fail
    refine (all_is (w.heap.size + 1) 8 [decide (1 ≤ c.tag), decide (c.tag ≤ 3), decide (1 ≤ c.most), decide (c.most ≤ 16384), powIn c.seg 4 64, powIn c.least c.seg 256, decide (1 ≤ c.den), decide (c.den ≤ 64)] _ _ (by simp) HS.out ?_).mono ?_
    · intro i hi
      match i, hi with
      | 0, _ => go_simp
      | 1, _ => go_simp
      | 2, _ => go_simp
      | 3, _ => go_simp
      | 4, _ => go_simp
      | 5, _ => go_simp
      | 6, _ => go_simp
      | 7, _ => go_simp
    rintro e w' ⟨rfl, rfl⟩
    go_wp2_with fail
    refine (all_is (w.heap.size + 2) 5 [decide (0 ≤ c.ll), decide (c.ll < c.rl), decide (c.rl < c.rh), decide (c.rh < c.lh), decide (c.lh ≤ c.den)] _ _ (by simp) HP.out ?_).mono ?_
    · intro i hi
      match i, hi with
      | 0, _ => go_simp
      | 1, _ => go_simp
      | 2, _ => go_simp
      | 3, _ => go_simp
      | 4, _ => go_simp
    rintro e w' ⟨rfl, rfl⟩
    go_wp2
    go_ret
    exact ⟨rfl, by repeat (first | exact Below.refl _ _ | apply Below.drew | (refine Below.alloc ?_ (by simp; try omega) _))⟩

/-- Bounds of what is reckoned where the first two tests hold. -/
theorem sp_bounds {c : Cfg} (hs : sizesB c = true) (hp : partsB c = true) : (1 ≤ c.den ∧ c.den ≤ 64 ∧ 0 ≤ c.rl ∧ c.rl ≤ 64 ∧ 0 ≤ c.rh ∧ c.rh ≤ 64 ∧ 0 ≤ c.ll ∧ 1 ≤ c.lh ∧ c.lh ≤ 64 ∧ c.rh < c.lh) ∧ (4 ≤ c.seg ∧ c.seg ≤ 64 ∧ 4 ≤ c.least ∧ c.least ≤ 256) ∧ (0 ≤ c.rl * c.least ∧ c.rl * c.least ≤ 16384) ∧ (0 ≤ (c.lh - c.rh) * c.seg ∧ (c.lh - c.rh) * c.seg ≤ 4096) := by
  simp [sizesB, partsB, powIn] at hs hp
  have g1 : 0 ≤ c.rl * c.least := Int.mul_nonneg (by omega) (by omega)
  have g2 : c.rl * c.least ≤ 64 * 256 := Int.mul_le_mul (by omega) (by omega) (by omega) (by omega)
  have g3 : 0 ≤ (c.lh - c.rh) * c.seg := Int.mul_nonneg (by omega) (by omega)
  have g4 : (c.lh - c.rh) * c.seg ≤ 64 * 64 := Int.mul_le_mul (by omega) (by omega) (by omega) (by omega)
  exact ⟨by omega, by omega, ⟨g1, by omega⟩, ⟨g3, by omega⟩⟩

set_option maxRecDepth 100000 in
set_option maxHeartbeats 4000000 in
theorem check_rest (c : Cfg) (w : World) (W : c.Wf) (hs : sizesB c = true) (hp : partsB c = true) (hr : restB c = false) :
    Calls Try.prog 13 #[.agg #[.int .u8 c.tag, .int .i64 c.most, .int .i64 c.seg, .int .i64 c.least, .int .i64 c.den, .int .i64 c.ll, .int .i64 c.rl, .int .i64 c.rh, .int .i64 c.lh]] w fun e w' => e = .returned (.int .i64 50) ∧ Below w.heap.size w w' := by
  have HS := Lib.hid ((sizes_all c).trans hs)
  have HP := Lib.hid ((parts_all c).trans hp)
  have HR := Lib.hid ((rest_all c).trans hr)
  have HW := Lib.hid W
  obtain ⟨⟨d1, d2, r1, r2, r3, r4, r5, r6, r7, r8⟩, ⟨g1, g2, g3, g4⟩, ⟨q1, q2⟩, _⟩ := sp_bounds hs hp
  clear hs hp hr
  go_enter Try.func13, Try.ntmps13
  go_wp2
  refine region_still_tail 26 mixed (by kernel_rfl) ?_
  simp only [List.take_succ_cons, List.take_zero, List.drop_succ_cons, List.drop_zero]
  repeat still_step
  still_call ((power_any _ _ _ _ HW.out.seg).mono fun _ _ h => ⟨h.1, h.2.symm⟩)
  repeat still_step
  still_call ((power_any _ _ _ _ HW.out.least).mono fun _ _ h => ⟨h.1, h.2.symm⟩)
  repeat still_step
  refine wpStill_nil ?_
  go_wp2_with fail
  refine (all_is (w.heap.size + 1) 8 [decide (1 ≤ c.tag), decide (c.tag ≤ 3), decide (1 ≤ c.most), decide (c.most ≤ 16384), powIn c.seg 4 64, powIn c.least c.seg 256, decide (1 ≤ c.den), decide (c.den ≤ 64)] _ _ (by simp) HS.out ?_).mono ?_
  · intro i hi
    match i, hi with
    | 0, _ => go_simp
    | 1, _ => go_simp
    | 2, _ => go_simp
    | 3, _ => go_simp
    | 4, _ => go_simp
    | 5, _ => go_simp
    | 6, _ => go_simp
    | 7, _ => go_simp
  rintro e w' ⟨rfl, rfl⟩
  go_wp2_with fail
  refine (all_is (w.heap.size + 2) 5 [decide (0 ≤ c.ll), decide (c.ll < c.rl), decide (c.rl < c.rh), decide (c.rh < c.lh), decide (c.lh ≤ c.den)] _ _ (by simp) HP.out ?_).mono ?_
  · intro i hi
    match i, hi with
    | 0, _ => go_simp
    | 1, _ => go_simp
    | 2, _ => go_simp
    | 3, _ => go_simp
    | 4, _ => go_simp
  rintro e w' ⟨rfl, rfl⟩
  go_wp2_with fail
  refine (all_is (w.heap.size + 3) 3 [decide (c.den ≤ 2 * c.rh), decide (8 * c.rl ≤ c.den), decide (2 * c.den ≤ c.rl * c.least)] _ _ (by simp) HR.out ?_).mono ?_
  · intro i hi
    match i, hi with
    | 0, _ => go_simp
    | 1, _ => go_simp
    | 2, _ => go_simp
  rintro e w' ⟨rfl, rfl⟩
  go_wp2
  go_ret
  exact ⟨rfl, by repeat (first | exact Below.refl _ _ | apply Below.drew | (refine Below.alloc ?_ (by simp; try omega) _))⟩

end Go.Proofs.Ythgeghdegpgijaa.Conf
