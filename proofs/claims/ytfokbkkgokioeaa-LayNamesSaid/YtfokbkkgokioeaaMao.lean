/- Contracts of the document's answer for package lay: With. Contracts of package lay: With. Contracts of package lay's laws: what is spoiled; what came in; how long answers are. -/
import Derived.Test.YtfokbkkgokioeaaMan
import Derived.ArgAppend
set_option linter.unusedSimpArgs false
set_option linter.unusedVariables false
namespace Go.Proofs.Ytfokbkkgokioeaa.Lay
open Go.RowKit Go.Shelf Go.Sort Go.Proofs.Ytfokbkkgokioeaa Go.Proofs.Ytfokbkkgokioeaa.Occ Go.Proofs.Ytfokbkkgokioeaa.Slo
attribute [local go_sem] sval Oper.semAt_some

/-- What a drawn region's loads and call have yielded: the array, the pair, pairs. -/
def wiF (s : Sl) (h : Hd) (x y : Int) (ps : List (Int × Int)) : Nat → Value → World → Prop
  | 0, v, _ => v = sval s h
  | 5, v, _ => v = .agg #[.int .i64 x, .int .i64 y]
  | _, v, W => ∃ a c, v = .slice a ps.length c ∧ Rd2 W a ps
theorem wiF_mono (s : Sl) (h : Hd) (x y : Int) (ps : List (Int × Int)) (i : Nat) (v : Value) (W W' : World) (hf : wiF s h x y ps i v W) (hb : Below W.heap.size W W') : wiF s h x y ps i v W' := by
  unfold wiF at *
  split <;> simp_all
  obtain ⟨a, ⟨c, e⟩, r⟩ := hf
  exact ⟨a, ⟨c, e⟩, r.mono hb (Nat.le_refl _)⟩
def wiD : Nat → List Nat
  | 6 => [5]
  | _ => []
set_option maxRecDepth 100000 in
set_option maxHeartbeats 8000000 in
theorem lrefWith_any (s : Sl) (h : Hd) (f t k x y : Int) (w : World) (W : s.Wf) (R : SRd w s h) (N : HNo h) :
    Calls Try.prog 19 #[sval s h, .int .i64 f, .int .i64 t, .int .i64 k, .agg #[.int .i64 x, .int .i64 y]] w fun e w' => AnsS (withSV s f t k x y) w e w' := by
  have HPR := Lib.hid (refPairs_any s h f t (withW w s h x y) W (R.mono (withW_below w s h x y) (Nat.le_refl _)))
  have HB0 := Lib.hid (withW_below w s h x y)
  have HX0 := Lib.hid (withW_box w s h x y)
  have HP0 := Lib.hid (withW_res w s h x y)
  have HZ0 := Lib.hid (withW_zero w s h x y)
  have HS0 := Lib.hid (withW_size w s h x y)
  by_cases hp : (prsV s f t).2 = 0
  case neg =>
    have HV : Hid (withSV s f t k x y = (noneS, (prsV s f t).2)) := Lib.hid (if_pos hp)
    generalize withSV s f t k x y = LV at *
    generalize prsV s f t = pv at *
    obtain ⟨PL, pe⟩ := pv
    dsimp only at HV hp
    have hne : (pe != 0) = true := by rw [bne_iff_ne]; exact hp
    clear W R hp N
    unfold sval at *
    go_enter Try.func19, Try.ntmps19
    go_wp2_with fail
    rw [withW_fold]
    refine HPR.out.mono ?_
    rintro e w1 ⟨v, rfl, ho, hb⟩
    obtain ⟨ap, cp, rfl, -, hrx, hcap, hnil, -⟩ := owns2_arg ho
    have HRX := Lib.hid hrx
    have HCAP := Lib.hid hcap
    have HNIL := Lib.hid hnil
    have HB1 : Hid (Below w.heap.size w w1) := Lib.hid (HB0.out.trans (hb.mono HB0.out.size))
    have HX1 := Lib.hid (HX0.out.below hb (by have := HS0.out; omega))
    have HP1 := Lib.hid (HP0.out.below hb (by have := HS0.out; omega))
    have HD1 := Lib.hid (HZ0.out.below hb (by have := HS0.out; omega))
    have HL1 : Hid (w.heap.size + 3 ≤ w1.heap.size) := Lib.hid (by have := hb.size; have := HS0.out; omega)
    clear ho hrx hcap hnil hb HB0 HX0 HP0 HZ0 HS0 HPR
    generalize withW w s h x y = w0 at *

    have d0 := HD1.out.c0; have d1 := HD1.out.c1; have d2 := HD1.out.c2; have d3 := HD1.out.c3; have d4 := HD1.out.c4; have d5 := HD1.out.c5
    have f0 := HD1.out.f 0; have f1 := HD1.out.f 1; have f2 := HD1.out.f 2; have f3 := HD1.out.f 3; have f4 := HD1.out.f 4; have f5 := HD1.out.f 5

    go_wp2
    rw [stZ_fold]
    have q0 := (stS_box (s := noneS) (h := noneH) HD1.out).c0; have q1 := (stS_box (s := noneS) (h := noneH) HD1.out).c1; have q2 := (stS_box (s := noneS) (h := noneH) HD1.out).c2; have q3 := (stS_box (s := noneS) (h := noneH) HD1.out).c3; have q4 := (stS_box (s := noneS) (h := noneH) HD1.out).c4; have q5 := (stS_box (s := noneS) (h := noneH) HD1.out).c5
    refine bodyPost_ret (v := .tuple #[sval noneS noneH, .int .i64 pe]) (by simp [results, Try.results19, sval, go_sem, q0, q1, q2, q3, q4, q5]) rfl ⟨noneH, by rw [HV.out], by rw [HV.out]; exact noneS_own _ _ _, stS_below HB1.out (by omega)⟩
  case pos =>
    obtain ⟨hok, hin⟩ := askS_ok (prsV_ask hp)
    obtain ⟨h0, h1, h2⟩ := inB_iff.1 hin
    obtain ⟨g, q, o⟩ := okS_iff.1 hok
    have hn1 := o.n1
    obtain ⟨hf1, hf2⟩ := prsV_fits hp
    obtain ⟨f, rfl⟩ := Int.eq_ofNat_of_zero_le h0
    obtain ⟨t, rfl⟩ := Int.eq_ofNat_of_zero_le (show 0 ≤ t by omega)
    have wtf : IntKind.i64.wrap ((t : Int) - (f : Int)) = ((t - f : Nat) : Int) := by rw [IntKind.wrap_i64]; omega
    by_cases hfull : (prsV s f t).1.length = t - f
    case pos =>
      have HV : Hid (withSV s f t k x y = (noneS, 9)) := Lib.hid (by unfold withSV; rw [if_neg (by rw [hp]; simp), if_pos (by rw [hfull]; omega)])
      generalize withSV s f t k x y = LV at *
      clear W R hok hin h0 h1 h2 hf1 hf2 o N

      generalize prsV s f t = pv at *
      obtain ⟨PL, pe⟩ := pv

      dsimp only at hp hfull
      subst hp
      have hbe : ((PL.length : Int) == ((t - f : Nat) : Int)) = true := by rw [beq_iff_eq]; omega
      clear hfull
      generalize t - f = d at *

      unfold sval at *
      go_enter Try.func19, Try.ntmps19
      go_wp2_with fail
      rw [withW_fold]
      refine HPR.out.mono ?_
      rintro e w1 ⟨v, rfl, ho, hb⟩
      obtain ⟨ap, cp, rfl, -, hrx, hcap, hnil, -⟩ := owns2_arg ho
      have HRX := Lib.hid hrx
      have HCAP := Lib.hid hcap
      have HNIL := Lib.hid hnil
      have HB1 : Hid (Below w.heap.size w w1) := Lib.hid (HB0.out.trans (hb.mono HB0.out.size))
      have HX1 := Lib.hid (HX0.out.below hb (by have := HS0.out; omega))
      have HP1 := Lib.hid (HP0.out.below hb (by have := HS0.out; omega))
      have HD1 := Lib.hid (HZ0.out.below hb (by have := HS0.out; omega))
      have HL1 : Hid (w.heap.size + 3 ≤ w1.heap.size) := Lib.hid (by have := hb.size; have := HS0.out; omega)
      clear ho hrx hcap hnil hb HB0 HX0 HP0 HZ0 HS0 HPR
      generalize withW w s h x y = w0 at *

      have d0 := HD1.out.c0; have d1 := HD1.out.c1; have d2 := HD1.out.c2; have d3 := HD1.out.c3; have d4 := HD1.out.c4; have d5 := HD1.out.c5
      have f0 := HD1.out.f 0; have f1 := HD1.out.f 1; have f2 := HD1.out.f 2; have f3 := HD1.out.f 3; have f4 := HD1.out.f 4; have f5 := HD1.out.f 5

      go_wp2
      rw [stZ_fold]
      have q0 := (stS_box (s := noneS) (h := noneH) HD1.out).c0; have q1 := (stS_box (s := noneS) (h := noneH) HD1.out).c1; have q2 := (stS_box (s := noneS) (h := noneH) HD1.out).c2; have q3 := (stS_box (s := noneS) (h := noneH) HD1.out).c3; have q4 := (stS_box (s := noneS) (h := noneH) HD1.out).c4; have q5 := (stS_box (s := noneS) (h := noneH) HD1.out).c5
      refine bodyPost_ret (v := .tuple #[sval noneS noneH, .int .i64 9]) (by simp [results, Try.results19, sval, go_sem, q0, q1, q2, q3, q4, q5]) rfl ⟨noneH, by rw [HV.out], by rw [HV.out]; exact noneS_own _ _ _, stS_below HB1.out (by omega)⟩
    case neg =>
      by_cases hk : k < 0 ∨ ((prsV s f t).1.length : Int) < k
      case pos =>
        have HV : Hid (withSV s f t k x y = (noneS, 2)) := Lib.hid (by unfold withSV; rw [if_neg (by rw [hp]; simp), if_neg (by omega), if_pos hk])
        generalize withSV s f t k x y = LV at *
        clear W R hok hin h0 h1 h2 hf1 hf2 o N

        generalize prsV s f t = pv at *
        obtain ⟨PL, pe⟩ := pv

        dsimp only at hp hfull hk
        subst hp
        have hbe : ((PL.length : Int) == ((t - f : Nat) : Int)) = false := by rw [beq_eq_false_iff_ne]; omega
        clear hfull
        generalize t - f = d at *
        have hk' : k < 0 ∨ ¬ k < 0 ∧ (PL.length : Int) < k := by omega
        clear hk
        rcases hk' with hk | ⟨hk, hk2⟩
        all_goals
          unfold sval at *
          go_enter Try.func19, Try.ntmps19
          go_wp2_with fail
          rw [withW_fold]
          refine HPR.out.mono ?_
          rintro e w1 ⟨v, rfl, ho, hb⟩
          obtain ⟨ap, cp, rfl, -, hrx, hcap, hnil, -⟩ := owns2_arg ho
          have HRX := Lib.hid hrx
          have HCAP := Lib.hid hcap
          have HNIL := Lib.hid hnil
          have HB1 : Hid (Below w.heap.size w w1) := Lib.hid (HB0.out.trans (hb.mono HB0.out.size))
          have HX1 := Lib.hid (HX0.out.below hb (by have := HS0.out; omega))
          have HP1 := Lib.hid (HP0.out.below hb (by have := HS0.out; omega))
          have HD1 := Lib.hid (HZ0.out.below hb (by have := HS0.out; omega))
          have HL1 : Hid (w.heap.size + 3 ≤ w1.heap.size) := Lib.hid (by have := hb.size; have := HS0.out; omega)
          clear ho hrx hcap hnil hb HB0 HX0 HP0 HZ0 HS0 HPR
          generalize withW w s h x y = w0 at *

          have d0 := HD1.out.c0; have d1 := HD1.out.c1; have d2 := HD1.out.c2; have d3 := HD1.out.c3; have d4 := HD1.out.c4; have d5 := HD1.out.c5
          have f0 := HD1.out.f 0; have f1 := HD1.out.f 1; have f2 := HD1.out.f 2; have f3 := HD1.out.f 3; have f4 := HD1.out.f 4; have f5 := HD1.out.f 5

          go_wp2
          rw [stZ_fold]
          have q0 := (stS_box (s := noneS) (h := noneH) HD1.out).c0; have q1 := (stS_box (s := noneS) (h := noneH) HD1.out).c1; have q2 := (stS_box (s := noneS) (h := noneH) HD1.out).c2; have q3 := (stS_box (s := noneS) (h := noneH) HD1.out).c3; have q4 := (stS_box (s := noneS) (h := noneH) HD1.out).c4; have q5 := (stS_box (s := noneS) (h := noneH) HD1.out).c5
          refine bodyPost_ret (v := .tuple #[sval noneS noneH, .int .i64 2]) (by simp [results, Try.results19, sval, go_sem, q0, q1, q2, q3, q4, q5]) rfl ⟨noneH, by rw [HV.out], by rw [HV.out]; exact noneS_own _ _ _, stS_below HB1.out (by omega)⟩
      case neg =>
        obtain ⟨k, rfl⟩ := Int.eq_ofNat_of_zero_le (show 0 ≤ k by omega)
        have hkl : k ≤ (prsV s f t).1.length := by omega
        have HV : Hid (withSV s f t k x y = (spreadV s f t (amongV (prsV s f t).1 k x y), 0)) := Lib.hid (by unfold withSV; rw [if_neg (by rw [hp]; simp), if_neg (by omega), if_neg hk]; simp)
        have hal := amongV_length (prsV s f t).1 k x y hkl

        have HAM := Lib.hid (fun ax cx w1 (hb : Below w.heap.size w w1) (hr : Rd2 w1 ax (prsV s f t).1) (hn : ax = Option.none → cx = 0) (hc : (prsV s f t).1.length ≤ cx) => among_any ax cx (prsV s f t).1 k x y w1 hr hn hc hkl (by omega))
        have HOV := Lib.hid (fun ax cx w1 (hb : Below w.heap.size w w1) (hr : Rd2 w1 ax (amongV (prsV s f t).1 k x y)) => refSpread_any s h g q f t ax cx (amongV (prsV s f t).1 k x y) w1 W (R.mono hb (Nat.le_refl _)) N o (by omega) (by omega) hr (by omega) (by omega))
        generalize spreadV s f t (amongV (prsV s f t).1 k x y) = X at *
        generalize amongV (prsV s f t).1 k x y = AM at *
        generalize withSV s f t k x y = LV at *
        clear W R hok hin h0 h1 h2 o N
        generalize prsV s f t = pv at *
        obtain ⟨PL, pe⟩ := pv
        dsimp only at hp hfull hk hal hf1 hf2 hkl
        subst hp
        have hbe : ((PL.length : Int) == ((t - f : Nat) : Int)) = false := by rw [beq_eq_false_iff_ne]; omega
        have hk1 : ¬ (PL.length : Int) < k := by omega
        have HAL := Lib.hid hal
        clear hfull hf1 hf2 hn1 hal hk
        generalize t - f = d at *

        unfold sval at *
        go_enter Try.func19, Try.ntmps19
        go_wp2_with fail
        rw [withW_fold]
        refine HPR.out.mono ?_
        rintro e w1 ⟨v, rfl, ho, hb⟩
        obtain ⟨ap, cp, rfl, -, hrx, hcap, hnil, -⟩ := owns2_arg ho
        have HRX := Lib.hid hrx
        have HCAP := Lib.hid hcap
        have HNIL := Lib.hid hnil
        have HB1 : Hid (Below w.heap.size w w1) := Lib.hid (HB0.out.trans (hb.mono HB0.out.size))
        have HX1 := Lib.hid (HX0.out.below hb (by have := HS0.out; omega))
        have HP1 := Lib.hid (HP0.out.below hb (by have := HS0.out; omega))
        have HD1 := Lib.hid (HZ0.out.below hb (by have := HS0.out; omega))
        have HL1 : Hid (w.heap.size + 3 ≤ w1.heap.size) := Lib.hid (by have := hb.size; have := HS0.out; omega)
        clear ho hrx hcap hnil hb HB0 HX0 HP0 HZ0 HS0 HPR
        generalize withW w s h x y = w0 at *

        go_wp2_with fail
        refine Mix.wp_region_plan (fun _ => True) [0, 5, 6, 7, 8, 9] [.free [false, true, true, true, true]] #[false, true, true, true, true, false, false, false, false, false] 6 mixed' (by kernel_rfl) (by kernel_rfl) (by kernel_rfl) (fun _ _ _ _ _ h => h) trivial ?_
        simp only [Mix.wpPlan, Mix.maskL]
        repeat (go_big_quiet_step (fail))
        refine wpQuiet_nil ?_
        have HB2 : Hid (Below w.heap.size w w1.drew) := Lib.hid HB1.out.drew
        have HX2 := Lib.hid (HX1.out.below (Below.refl w1.heap.size w1).drew (by have := HL1.out; omega))
        have HP2 := Lib.hid (HP1.out.below (Below.refl w1.heap.size w1).drew (by have := HL1.out; omega))
        have HD2 := Lib.hid (HD1.out.below (Below.refl w1.heap.size w1).drew (by have := HL1.out; omega))
        have HL2 : Hid (w.heap.size + 3 ≤ w1.drew.heap.size) := Lib.hid (by have := HL1.out; simpa using this)
        have HRX2 := Lib.hid (HRX.out.mono (Below.refl w1.heap.size w1).drew (Nat.le_refl _))
        clear HB1 HX1 HP1 HD1 HL1 HRX
        generalize w1.drew = w2 at *
        generalize hA : Act.mk _ _ = A
        have hsz : A.tmps.size = 49 := by rw [← hA]; rfl
        have h5 : A.tmps[5]?.getD undef = .pointer (some ⟨w.heap.size, 0, Option.none⟩) := by rw [← hA]; rfl
        have h9 : A.tmps[9]?.getD undef = .pointer (some ⟨w.heap.size + 1, 0, Option.none⟩) := by rw [← hA]; rfl
        have h44 : A.tmps[44]?.getD undef = .slice ap PL.length cp := by rw [← hA]; rfl
        have h45 : A.tmps[45]?.getD undef = .int .i64 k := by rw [← hA]; rfl
        have HA := Lib.hid hA
        clear hA
        refine Mix.wpAny_dag #[true, true, true, true, true, true, true, false, false, false] 3 [(0, 41), (5, 46), (6, 47)] wiD (wiF s h x y AM) (by decide) (by decide) ?hop (wiF_mono s h x y AM) (by kernel_rfl) ?tail
        case hop =>
          intro p hp B W K hb hd hk
          have hne : ∀ d : Nat, d ≠ 41 → d ≠ 46 → d ≠ 47 → (Mix.putL A [(0, 41), (5, 46), (6, 47)] B).tmps[d]?.getD undef = A.tmps[d]?.getD undef := fun d e1 e2 e3 => by
            have := Mix.putL_ne A [(0, 41), (5, 46), (6, 47)] B d (by intro q hq; simp only [List.mem_cons, List.not_mem_nil, or_false] at hq; rcases hq with rfl | rfl | rfl <;> first | exact fun e => e1 e.symm | exact fun e => e2 e.symm | exact fun e => e3 e.symm)
            simpa [Act.eval] using this
          simp only [List.mem_cons, List.not_mem_nil, or_false] at hp
          have HXW := Lib.hid (HX2.out.below hb (by have := HL2.out; omega))
          have HPW := Lib.hid (HP2.out.below hb (by have := HL2.out; omega))
          rcases hp with rfl | rfl | rfl
          · have c0 := HXW.out.c0; have c1 := HXW.out.c1; have c2 := HXW.out.c2; have c3 := HXW.out.c3; have c4 := HXW.out.c4; have c5 := HXW.out.c5
            have y := (hne 5 (by decide) (by decide) (by decide)).trans h5
            refine Mix.wpOp_value rfl rfl (v := sval s h) (W' := W) ?_ (hk _ _ (Below.refl _ _) rfl)
            simp [execOp, go_sem, y, c0, c1, c2, c3, c4, c5]
          · have p0 := HPW.out.a0; have p1 := HPW.out.a1
            have y := (hne 9 (by decide) (by decide) (by decide)).trans h9
            refine Mix.wpOp_value rfl rfl (W' := W) ?_ (hk _ _ (Below.refl _ _) rfl)
            simp [execOp, go_sem, y, p0, p1]
          · obtain ⟨v5, g5, rfl⟩ := hd (5, 46) (by decide) (by decide)
            have y1 : (Mix.putL A [(0, 41), (5, 46), (6, 47)] B).tmps[46]?.getD undef = .agg #[.int .i64 x, .int .i64 y] := by
              have := Mix.putL_eval A [(0, 41), (5, 46), (6, 47)] B 5 46 _ (by decide) (by decide) (by decide) (by rw [hsz]; decide) g5
              simpa [Act.eval] using this
            have y2 := (hne 44 (by decide) (by decide) (by decide)).trans h44
            have y3 := (hne 45 (by decide) (by decide) (by decide)).trans h45
            refine Mix.wpOp_call rfl rfl (f := 38) (args := #[.slice ap PL.length cp, .int .i64 k, .agg #[.int .i64 x, .int .i64 y]]) ?_ ((HAM.out ap cp W (HB2.out.trans (hb.mono HB2.out.size)) (HRX2.out.mono hb (Nat.le_refl _)) HNIL.out HCAP.out).mono ?_)
            · simp [execOp, resolve, y1, y2, y3, go_sem]
            · rintro e w' ⟨v, rfl, ho, hb'⟩
              rw [← HAL.out] at ho
              obtain ⟨a, c, rfl, -, hr, -⟩ := owns2_arg ho
              exact ⟨_, rfl, hk _ _ hb' ⟨a, c, rfl, hr⟩⟩
        case tail =>
          intro B W hb hB
          obtain ⟨v0, g0, rfl⟩ := hB (0, 41) (by decide)
          obtain ⟨v5, g5, rfl⟩ := hB (5, 46) (by decide)
          obtain ⟨v6, g6, aq, cq, rfl, hrx⟩ := hB (6, 47) (by decide)
          dsimp only at g0 g5 g6
          have hA := HA.out
          subst hA
          clear HA hsz h5 h9 h44 h45 hB
          simp only [Mix.putL, g0, g5, g6]
          clear g0 g5 g6
          have HRW := Lib.hid hrx
          have HB3 : Hid (Below w.heap.size w W) := Lib.hid (HB2.out.trans (hb.mono HB2.out.size))
          have HD3 := Lib.hid (HD2.out.below hb (by have := HL2.out; omega))
          have HL3 : Hid (w.heap.size + 3 ≤ W.heap.size) := Lib.hid (by have := hb.size; have := HL2.out; omega)
          clear hb hrx HX2 HP2 HD2 HL2 HB2 HRX2
          refine Mix.wpAny_tail [false, false, false, false, false, false, false, true, true, true] (Array.replicate 10 true) (by kernel_rfl) (by kernel_rfl) ?_
          simp only [Mix.maskL, Act.put]
          go_wp2_with fail
          refine (HOV.out aq cq _ HB3.out HRW.out).mono ?_
          rintro e w4 ⟨h4, rfl, ho, hb⟩
          have HO := Lib.hid ho
          clear ho HRW HOV
          have HB4 : Hid (Below w.heap.size w w4) := Lib.hid (HB3.out.trans (hb.mono HB3.out.size))
          have HD4 := Lib.hid (HD3.out.below hb (by have := HL3.out; omega))
          clear hb HD3 HB3

          have d0 := HD4.out.c0; have d1 := HD4.out.c1; have d2 := HD4.out.c2; have d3 := HD4.out.c3; have d4 := HD4.out.c4; have d5 := HD4.out.c5
          have f0 := HD4.out.f 0; have f1 := HD4.out.f 1; have f2 := HD4.out.f 2; have f3 := HD4.out.f 3; have f4 := HD4.out.f 4; have f5 := HD4.out.f 5

          go_wp2
          rw [stS_fold]
          have q0 := (stS_box (s := X) (h := h4) HD4.out).c0; have q1 := (stS_box (s := X) (h := h4) HD4.out).c1; have q2 := (stS_box (s := X) (h := h4) HD4.out).c2; have q3 := (stS_box (s := X) (h := h4) HD4.out).c3; have q4 := (stS_box (s := X) (h := h4) HD4.out).c4; have q5 := (stS_box (s := X) (h := h4) HD4.out).c5
          refine bodyPost_ret (v := .tuple #[sval X h4, .int .i64 0]) (by simp [results, Try.results19, sval, go_sem, q0, q1, q2, q3, q4, q5]) rfl ⟨h4, by rw [HV.out], ?_, ?_⟩
          · rw [HV.out]
            exact (stS_own HO.out (by have := HL3.out; omega)).mono (by have := HL3.out; omega) (by rw [stS_size]; exact Nat.le_refl _)
          · exact stS_below HB4.out (by omega)

end Go.Proofs.Ytfokbkkgokioeaa.Lay

namespace Go.Proofs.Ytfokbkkgokioeaa.Lay
open Go.RowKit Go.Shelf Go.Sort Go.Proofs.Ytfokbkkgokioeaa Go.Proofs.Ytfokbkkgokioeaa.Occ Go.Proofs.Ytfokbkkgokioeaa.Slo
attribute [local go_sem] sval Oper.semAt_some

theorem pairs_at {w : World} {a : Option Addr} {L : List (Int × Int)} (h : Rd2 w a L) : ∀ b, a = some b → ∀ j u, (pcells L)[j]? = some u → w.cell? (b.add j) = some u := by
  intro b hb j u hj
  rcases h with h | ⟨b', off, ha, _, hc⟩
  · subst h; simp [pcells] at hj
  · rw [hb] at ha; cases ha; exact pairs_src hc j u hj
/-- One pair more, behind pairs without room: new memory. -/
theorem wpList_append_full {P : Program} {w : World} {ops : Array Oper} {rest : List Oper} {o : Oper} {A : Act} {Q : Exit → Act → World → Prop} {e : TypeId} {L : List (Int × Int)} {ap : Option Addr} {n : Nat} (hn : L.length = n) (hr : Rd2 w ap L) (hnil : ap = Option.none → n = 0)
    (hgd : o.guard = Option.none) (s x : Operand) (t : TypeId) (ho : o.op = .call { callee := .builtin .append, args := #[s, x], argTypes := #[t, t] })
    (i : TypeInfo) (ht : P.underlying t = some (.slice e)) (hi : P.info? e = some i) (hz : i.zero = some (.agg #[.int .i64 0, .int .i64 0])) (hsize : i.size = 2) (hby : i.bytes = 16)
    (p q : Int) (b c : Nat) (hs : A.eval s = .slice ap n n) (hx : A.eval x = .slice (some ⟨b, 0, Option.none⟩) 1 c) (c0 : w.cell? ⟨b, 0, Option.none⟩ = some (.int .i64 p)) (c1 : w.cell? ⟨b, 1, Option.none⟩ = some (.int .i64 q))
    (h63 : n + 1 ≤ maxLen) (hb : (n + 1) * 16 ≤ 140737488355328)
    (h : ∀ v' w', w'.ownsRow w.heap.size e 2 v' (n + 1) (pcells (L ++ [(p, q)])) → Below w.heap.size w w' → wpList P ops Q rest (A.put o.dst v') w') :
    wpList P ops Q (o :: rest) A w := by
  refine wpList_append_grows w hgd s x t ho e i (.agg #[.int .i64 0, .int .i64 0]) 2 16 ht hi hz hsize hby rfl (by decide) ap n n (pcells L) hs (fun h => ⟨hnil h, hnil h⟩) (by rw [pcells_length, hn]) (pairs_at hr) ⟨b, 0, Option.none⟩ 1 c [.int .i64 p, .int .i64 q] hx rfl ?_ (by intro u hu; simp at hu; rcases hu with rfl | rfl <;> rfl) (by omega) h63 hb fun v' w' h1 h2 => ?_
  · intro j u hj
    rw [Addr.add_lit, Nat.zero_add]
    match j with
    | 0 => simp at hj; subst hj; exact c0
    | 1 => simp at hj; subst hj; exact c1
    | j + 2 => simp at hj
  · refine h v' w' (by rw [pcells_append]; exact h1) ((Below.refl w.heap.size w).grown h2 (Nat.le_refl _) (fun k hk => by cases hk))
/-- What the first drawn region's operations have yielded. -/
def waF (ap : Option Addr) (k lo : Nat) (x y : Int) (L : List (Int × Int)) : Nat → Value → World → Prop
  | 3, v, _ => v = .slice ap k k
  | 4, v, _ => v = .agg #[.int .i64 x, .int .i64 y]
  | 5, v, W => ∃ b, v = .slice (some ⟨b, 0, Option.none⟩) 1 1 ∧ W.cell? ⟨b, 0, Option.none⟩ = some (.int .i64 x) ∧ W.cell? ⟨b, 1, Option.none⟩ = some (.int .i64 y) ∧ b < W.heap.size
  | _, v, W => W.ownsRow lo 42 2 v (k + 1) (pcells (L ++ [(x, y)]))
theorem waF_mono (ap : Option Addr) (k lo : Nat) (x y : Int) (L : List (Int × Int)) (i : Nat) (v : Value) (W W' : World) (hf : waF ap k lo x y L i v W) (hb : Below W.heap.size W W') : waF ap k lo x y L i v W' := by
  unfold waF at *
  split <;> simp_all
  · obtain ⟨b, h1, h2, h3, h4⟩ := hf
    exact ⟨b, h1, (hb.cell (p := ⟨b, 0, Option.none⟩) h4).trans h2, (hb.cell (p := ⟨b, 1, Option.none⟩) h4).trans h3, Nat.lt_of_lt_of_le h4 hb.size⟩
  · exact owns_below hf hb
def waD : Nat → List Nat
  | 5 => [4]
  | 6 => [3, 5]
  | _ => []
/-- What the second one's have. -/
def wbF (s : Sl) (h : Hd) (a2 : Option Addr) (m c lo n : Nat) (L : List (Int × Int)) : Nat → Value → World → Prop
  | 0, v, _ => v = sval s h
  | 6, v, _ => v = .slice a2 m c
  | 7, v, W => W.ownsRow lo 42 2 v n (pcells L)
  | _, _, _ => True
def wbG (n : Nat) : Nat → World → World → Prop
  | 7, W, W' => Below n W W'
  | _, W, W' => W' = W
theorem wbG_below (n j : Nat) (W W' : World) (h : wbG n j W W') : Below n W W' := by
  unfold wbG at h
  split at h
  · exact h
  · subst h; exact Below.refl _ _
theorem wbF_mono (s : Sl) (h : Hd) (a2 : Option Addr) (m c lo n : Nat) (L : List (Int × Int)) (b j i : Nat) (v : Value) (W W' : World) (hne : i ≠ j) (hf : wbF s h a2 m c lo n L i v W) (hg : wbG b j W W') : wbF s h a2 m c lo n L i v W' := by
  unfold wbG at hg
  split at hg
  · unfold wbF at *
    split <;> simp_all
  · subst hg; exact hf
def wbD : Nat → List Nat
  | 7 => [6]
  | _ => []
set_option maxRecDepth 100000 in
set_option maxHeartbeats 8000000 in
theorem lWith_any (s : Sl) (h : Hd) (f t k x y : Int) (w : World) (W : s.Wf) (R : SRd w s h) :
    Calls Try.prog 18 #[sval s h, .int .i64 f, .int .i64 t, .int .i64 k, .agg #[.int .i64 x, .int .i64 y]] w fun e w' => AnsS (withSV s f t k x y) w e w' := by
  have HPR := Lib.hid (sPairs_any s h f t (withW w s h x y) W (R.mono (withW_below w s h x y) (Nat.le_refl _)))
  have HB0 := Lib.hid (withW_below w s h x y)
  have HX0 := Lib.hid (withW_box w s h x y)
  have HP0 := Lib.hid (withW_res w s h x y)
  have HZ0 := Lib.hid (withW_zero w s h x y)
  have HS0 := Lib.hid (withW_size w s h x y)
  by_cases hp : (prsV s f t).2 = 0
  case neg =>
    have HV : Hid (withSV s f t k x y = (noneS, (prsV s f t).2)) := Lib.hid (if_pos hp)
    generalize withSV s f t k x y = LV at *
    generalize prsV s f t = pv at *
    obtain ⟨PL, pe⟩ := pv
    dsimp only at HV hp
    have hne : (pe != 0) = true := by rw [bne_iff_ne]; exact hp
    clear W R hp
    unfold sval at *
    go_enter Try.func18, Try.ntmps18
    go_wp2_with fail
    rw [withW_fold]
    refine HPR.out.mono ?_
    rintro e w1 ⟨v, rfl, ho, hb⟩
    obtain ⟨ap, cp, rfl, -, hrx, hcap, hnil, -⟩ := owns2_arg ho
    have HRX := Lib.hid hrx
    have HCAP := Lib.hid hcap
    have HNIL := Lib.hid hnil
    have HB1 : Hid (Below w.heap.size w w1) := Lib.hid (HB0.out.trans (hb.mono HB0.out.size))
    have HX1 := Lib.hid (HX0.out.below hb (by have := HS0.out; omega))
    have HP1 := Lib.hid (HP0.out.below hb (by have := HS0.out; omega))
    have HD1 := Lib.hid (HZ0.out.below hb (by have := HS0.out; omega))
    have HL1 : Hid (w.heap.size + 3 ≤ w1.heap.size) := Lib.hid (by have := hb.size; have := HS0.out; omega)
    clear ho hrx hcap hnil hb HB0 HX0 HP0 HZ0 HS0 HPR
    generalize withW w s h x y = w0 at *

    have d0 := HD1.out.c0; have d1 := HD1.out.c1; have d2 := HD1.out.c2; have d3 := HD1.out.c3; have d4 := HD1.out.c4; have d5 := HD1.out.c5
    have f0 := HD1.out.f 0; have f1 := HD1.out.f 1; have f2 := HD1.out.f 2; have f3 := HD1.out.f 3; have f4 := HD1.out.f 4; have f5 := HD1.out.f 5

    go_wp2
    rw [stZ_fold]
    have q0 := (stS_box (s := noneS) (h := noneH) HD1.out).c0; have q1 := (stS_box (s := noneS) (h := noneH) HD1.out).c1; have q2 := (stS_box (s := noneS) (h := noneH) HD1.out).c2; have q3 := (stS_box (s := noneS) (h := noneH) HD1.out).c3; have q4 := (stS_box (s := noneS) (h := noneH) HD1.out).c4; have q5 := (stS_box (s := noneS) (h := noneH) HD1.out).c5
    refine bodyPost_ret (v := .tuple #[sval noneS noneH, .int .i64 pe]) (by simp [results, Try.results18, sval, go_sem, q0, q1, q2, q3, q4, q5]) rfl ⟨noneH, by rw [HV.out], by rw [HV.out]; exact noneS_own _ _ _, stS_below HB1.out (by omega)⟩
  case pos =>
    obtain ⟨hok, hin⟩ := askS_ok (prsV_ask hp)
    obtain ⟨h0, h1, h2⟩ := inB_iff.1 hin
    obtain ⟨g, q, o⟩ := okS_iff.1 hok
    have hn1 := o.n1
    obtain ⟨hf1, hf2⟩ := prsV_fits hp
    obtain ⟨f, rfl⟩ := Int.eq_ofNat_of_zero_le h0
    obtain ⟨t, rfl⟩ := Int.eq_ofNat_of_zero_le (show 0 ≤ t by omega)
    have wtf : IntKind.i64.wrap ((t : Int) - (f : Int)) = ((t - f : Nat) : Int) := by rw [IntKind.wrap_i64]; omega
    by_cases hfull : (prsV s f t).1.length = t - f
    case pos =>
      have HV : Hid (withSV s f t k x y = (noneS, 9)) := Lib.hid (by unfold withSV; rw [if_neg (by rw [hp]; simp), if_pos (by rw [hfull]; omega)])
      generalize withSV s f t k x y = LV at *
      clear W R hok hin h0 h1 h2 hf1 hf2 o

      generalize prsV s f t = pv at *
      obtain ⟨PL, pe⟩ := pv

      dsimp only at hp hfull
      subst hp
      have hbe : ((PL.length : Int) == ((t - f : Nat) : Int)) = true := by rw [beq_iff_eq]; omega
      clear hfull
      generalize t - f = d at *

      unfold sval at *
      go_enter Try.func18, Try.ntmps18
      go_wp2_with fail
      rw [withW_fold]
      refine HPR.out.mono ?_
      rintro e w1 ⟨v, rfl, ho, hb⟩
      obtain ⟨ap, cp, rfl, -, hrx, hcap, hnil, -⟩ := owns2_arg ho
      have HRX := Lib.hid hrx
      have HCAP := Lib.hid hcap
      have HNIL := Lib.hid hnil
      have HB1 : Hid (Below w.heap.size w w1) := Lib.hid (HB0.out.trans (hb.mono HB0.out.size))
      have HX1 := Lib.hid (HX0.out.below hb (by have := HS0.out; omega))
      have HP1 := Lib.hid (HP0.out.below hb (by have := HS0.out; omega))
      have HD1 := Lib.hid (HZ0.out.below hb (by have := HS0.out; omega))
      have HL1 : Hid (w.heap.size + 3 ≤ w1.heap.size) := Lib.hid (by have := hb.size; have := HS0.out; omega)
      clear ho hrx hcap hnil hb HB0 HX0 HP0 HZ0 HS0 HPR
      generalize withW w s h x y = w0 at *

      have d0 := HD1.out.c0; have d1 := HD1.out.c1; have d2 := HD1.out.c2; have d3 := HD1.out.c3; have d4 := HD1.out.c4; have d5 := HD1.out.c5
      have f0 := HD1.out.f 0; have f1 := HD1.out.f 1; have f2 := HD1.out.f 2; have f3 := HD1.out.f 3; have f4 := HD1.out.f 4; have f5 := HD1.out.f 5

      go_wp2
      rw [stZ_fold]
      have q0 := (stS_box (s := noneS) (h := noneH) HD1.out).c0; have q1 := (stS_box (s := noneS) (h := noneH) HD1.out).c1; have q2 := (stS_box (s := noneS) (h := noneH) HD1.out).c2; have q3 := (stS_box (s := noneS) (h := noneH) HD1.out).c3; have q4 := (stS_box (s := noneS) (h := noneH) HD1.out).c4; have q5 := (stS_box (s := noneS) (h := noneH) HD1.out).c5
      refine bodyPost_ret (v := .tuple #[sval noneS noneH, .int .i64 9]) (by simp [results, Try.results18, sval, go_sem, q0, q1, q2, q3, q4, q5]) rfl ⟨noneH, by rw [HV.out], by rw [HV.out]; exact noneS_own _ _ _, stS_below HB1.out (by omega)⟩
    case neg =>
      by_cases hk : k < 0 ∨ ((prsV s f t).1.length : Int) < k
      case pos =>
        have HV : Hid (withSV s f t k x y = (noneS, 2)) := Lib.hid (by unfold withSV; rw [if_neg (by rw [hp]; simp), if_neg (by omega), if_pos hk])
        generalize withSV s f t k x y = LV at *
        clear W R hok hin h0 h1 h2 hf1 hf2 o

        generalize prsV s f t = pv at *
        obtain ⟨PL, pe⟩ := pv

        dsimp only at hp hfull hk
        subst hp
        have hbe : ((PL.length : Int) == ((t - f : Nat) : Int)) = false := by rw [beq_eq_false_iff_ne]; omega
        clear hfull
        generalize t - f = d at *
        have hk' : k < 0 ∨ ¬ k < 0 ∧ (PL.length : Int) < k := by omega
        clear hk
        rcases hk' with hk | ⟨hk, hk2⟩
        all_goals
          unfold sval at *
          go_enter Try.func18, Try.ntmps18
          go_wp2_with fail
          rw [withW_fold]
          refine HPR.out.mono ?_
          rintro e w1 ⟨v, rfl, ho, hb⟩
          obtain ⟨ap, cp, rfl, -, hrx, hcap, hnil, -⟩ := owns2_arg ho
          have HRX := Lib.hid hrx
          have HCAP := Lib.hid hcap
          have HNIL := Lib.hid hnil
          have HB1 : Hid (Below w.heap.size w w1) := Lib.hid (HB0.out.trans (hb.mono HB0.out.size))
          have HX1 := Lib.hid (HX0.out.below hb (by have := HS0.out; omega))
          have HP1 := Lib.hid (HP0.out.below hb (by have := HS0.out; omega))
          have HD1 := Lib.hid (HZ0.out.below hb (by have := HS0.out; omega))
          have HL1 : Hid (w.heap.size + 3 ≤ w1.heap.size) := Lib.hid (by have := hb.size; have := HS0.out; omega)
          clear ho hrx hcap hnil hb HB0 HX0 HP0 HZ0 HS0 HPR
          generalize withW w s h x y = w0 at *

          have d0 := HD1.out.c0; have d1 := HD1.out.c1; have d2 := HD1.out.c2; have d3 := HD1.out.c3; have d4 := HD1.out.c4; have d5 := HD1.out.c5
          have f0 := HD1.out.f 0; have f1 := HD1.out.f 1; have f2 := HD1.out.f 2; have f3 := HD1.out.f 3; have f4 := HD1.out.f 4; have f5 := HD1.out.f 5

          go_wp2
          rw [stZ_fold]
          have q0 := (stS_box (s := noneS) (h := noneH) HD1.out).c0; have q1 := (stS_box (s := noneS) (h := noneH) HD1.out).c1; have q2 := (stS_box (s := noneS) (h := noneH) HD1.out).c2; have q3 := (stS_box (s := noneS) (h := noneH) HD1.out).c3; have q4 := (stS_box (s := noneS) (h := noneH) HD1.out).c4; have q5 := (stS_box (s := noneS) (h := noneH) HD1.out).c5
          refine bodyPost_ret (v := .tuple #[sval noneS noneH, .int .i64 2]) (by simp [results, Try.results18, sval, go_sem, q0, q1, q2, q3, q4, q5]) rfl ⟨noneH, by rw [HV.out], by rw [HV.out]; exact noneS_own _ _ _, stS_below HB1.out (by omega)⟩
      case neg =>
        obtain ⟨k, rfl⟩ := Int.eq_ofNat_of_zero_le (show 0 ≤ k by omega)
        have hkl : k ≤ (prsV s f t).1.length := by omega
        have HV : Hid (withSV s f t k x y = (spreadV s f t (amongV (prsV s f t).1 k x y), 0)) := Lib.hid (by unfold withSV; rw [if_neg (by rw [hp]; simp), if_neg (by omega), if_neg hk]; simp)
        have hal := amongV_length (prsV s f t).1 k x y hkl

        have HOV := Lib.hid (fun ax cx w1 (hb : Below w.heap.size w w1) (hr : Rd2 w1 ax (amongV (prsV s f t).1 k x y)) => over_any s h f t ax cx (amongV (prsV s f t).1 k x y) w1 W (R.mono hb (Nat.le_refl _)) hr (by omega))
        rw [overSV_ok (ps := amongV (prsV s f t).1 k x y) (prsV_ask hp) (by omega)] at HOV
        simp only [Int.toNat_natCast] at HOV
        have HT : Hid (∀ w1 ax, Rd2 w1 ax (prsV s f t).1 → Rd2 w1 ax ((prsV s f t).1.take k)) := Lib.hid fun w1 ax hr => rd2_take hr k
        have HDr : Hid (∀ w1 ax cx, Rd2 w1 ax (prsV s f t).1 → (prsV s f t).1.length ≤ cx → Rd2 w1 (if cx = k then ax else ax.map (fun x => x.add (k * 2))) ((prsV s f t).1.drop k)) := Lib.hid fun w1 ax cx hr hc => rd2_drop hr hc
        have HLT : Hid (((prsV s f t).1.take k).length = k) := Lib.hid (by rw [List.length_take]; omega)
        have HLD : Hid (((prsV s f t).1.drop k).length = (prsV s f t).1.length - k) := Lib.hid (by rw [List.length_drop])
        have HAV : Hid (amongV (prsV s f t).1 k x y = (prsV s f t).1.take k ++ (x, y) :: (prsV s f t).1.drop k) := Lib.hid rfl
        generalize spreadV s f t (amongV (prsV s f t).1 k x y) = X at *
        generalize amongV (prsV s f t).1 k x y = AM at *
        generalize (prsV s f t).1.take k = L1 at *
        generalize (prsV s f t).1.drop k = L2 at *
        generalize withSV s f t k x y = LV at *
        clear W R hok hin h0 h1 h2 o
        generalize prsV s f t = pv at *
        obtain ⟨PL, pe⟩ := pv
        dsimp only at hp hfull hk hal hf1 hf2 hkl HT HDr HLD
        subst hp
        have hbe : ((PL.length : Int) == ((t - f : Nat) : Int)) = false := by rw [beq_eq_false_iff_ne]; omega
        have hk1 : ¬ (PL.length : Int) < k := by omega
        have hl65 : PL.length ≤ 65536 := by omega
        have HAL := Lib.hid hal
        clear hfull hf1 hf2 hn1 hal hk
        generalize t - f = d at *

        unfold sval at *
        go_enter Try.func18, Try.ntmps18
        go_wp2_with fail
        rw [withW_fold]
        refine HPR.out.mono ?_
        rintro e w1 ⟨v, rfl, ho, hb⟩
        obtain ⟨ap, cp, rfl, -, hrx, hcap, hnil, -⟩ := owns2_arg ho
        have HRX := Lib.hid hrx
        have HCAP := Lib.hid hcap
        have HNIL := Lib.hid hnil
        have HB1 : Hid (Below w.heap.size w w1) := Lib.hid (HB0.out.trans (hb.mono HB0.out.size))
        have HX1 := Lib.hid (HX0.out.below hb (by have := HS0.out; omega))
        have HP1 := Lib.hid (HP0.out.below hb (by have := HS0.out; omega))
        have HD1 := Lib.hid (HZ0.out.below hb (by have := HS0.out; omega))
        have HL1 : Hid (w.heap.size + 3 ≤ w1.heap.size) := Lib.hid (by have := hb.size; have := HS0.out; omega)
        clear ho hrx hcap hnil hb HB0 HX0 HP0 HZ0 HS0 HPR
        generalize withW w s h x y = w0 at *

        have hcap' : PL.length ≤ cp := HCAP.out
        have hkc : k ≤ cp := by omega
        have HD2r := Lib.hid (HDr.out)
        have HNN : Hid ((if cp = k then ap else ap.map (fun x => x.add (k * 2))) = Option.none → cp - k = 0) := Lib.hid (by
          split
          · omega
          · intro h; rw [Option.map_eq_none_iff] at h; have := HNIL.out h; omega)
        generalize hA2 : (if cp = k then ap else ap.map (fun x => x.add (k * 2))) = a2 at *
        obtain ⟨i0, hi, hz0, hz1, hz2⟩ := info_parts infoPr
        go_wp2_with fail
        refine Mix.wp_region_plan (fun _ => True) [3, 4, 5, 6] [.free [true, true, true]] #[true, true, true, false, false, false, false, false] 5 mixed' (by kernel_rfl) (by kernel_rfl) (by kernel_rfl) (fun _ _ _ _ _ h => h) trivial ?_
        simp only [Mix.wpPlan, Mix.maskL]
        repeat (go_big_quiet_step (fail))
        refine wpQuiet_nil ?_
        have HB2 : Hid (Below w.heap.size w w1.drew) := Lib.hid HB1.out.drew
        have HX2 := Lib.hid (HX1.out.below (Below.refl w1.heap.size w1).drew (by have := HL1.out; omega))
        have HP2 := Lib.hid (HP1.out.below (Below.refl w1.heap.size w1).drew (by have := HL1.out; omega))
        have HD2 := Lib.hid (HD1.out.below (Below.refl w1.heap.size w1).drew (by have := HL1.out; omega))
        have HL2 : Hid (w.heap.size + 3 ≤ w1.drew.heap.size) := Lib.hid (by have := HL1.out; simpa using this)
        have HRX2 := Lib.hid (HRX.out.mono (Below.refl w1.heap.size w1).drew (Nat.le_refl _))
        clear HB1 HX1 HP1 HD1 HL1 HRX
        generalize w1.drew = w2 at *
        generalize hA : Act.mk _ _ = A
        have hsz : A.tmps.size = 63 := by rw [← hA]; rfl
        have h9 : A.tmps[9]?.getD undef = .pointer (some ⟨w.heap.size + 1, 0, Option.none⟩) := by rw [← hA]; rfl
        have h45 : A.tmps[45]?.getD undef = .slice ap PL.length cp := by rw [← hA]; rfl
        have h46 : A.tmps[46]?.getD undef = .int .i64 k := by rw [← hA]; rfl
        have h47 : A.tmps[47]?.getD undef = .int .i64 k := by rw [← hA]; rfl
        have HA := Lib.hid hA
        clear hA
        refine Mix.wpAny_dag #[true, true, true, true, true, true, true, false] 1 [(3, 48), (4, 49), (5, 50), (6, 51)] waD (waF ap k w2.heap.size x y L1) (by decide) (by decide) ?hop (waF_mono ap k w2.heap.size x y L1) (by kernel_rfl) ?tail
        case hop =>
          intro p hp B W K hb hd hk
          have hne : ∀ d : Nat, d ≠ 48 → d ≠ 49 → d ≠ 50 → d ≠ 51 → (Mix.putL A [(3, 48), (4, 49), (5, 50), (6, 51)] B).tmps[d]?.getD undef = A.tmps[d]?.getD undef := fun d e1 e2 e3 e4 => by
            have := Mix.putL_ne A [(3, 48), (4, 49), (5, 50), (6, 51)] B d (by intro q hq; simp only [List.mem_cons, List.not_mem_nil, or_false] at hq; rcases hq with rfl | rfl | rfl | rfl <;> first | exact fun e => e1 e.symm | exact fun e => e2 e.symm | exact fun e => e3 e.symm | exact fun e => e4 e.symm)
            simpa [Act.eval] using this
          have hev : ∀ i d v, (i, d) ∈ [(3, 48), (4, 49), (5, 50), (6, 51)] → d < 63 → B i = some v → (Mix.putL A [(3, 48), (4, 49), (5, 50), (6, 51)] B).eval (.tmp d) = v := fun i d v h1 h2 h3 => Mix.putL_eval A [(3, 48), (4, 49), (5, 50), (6, 51)] B i d v (by decide) (by decide) h1 (by rw [hsz]; exact h2) h3
          simp only [List.mem_cons, List.not_mem_nil, or_false] at hp
          have HPW := Lib.hid (HP2.out.below hb (by have := HL2.out; omega))
          rcases hp with rfl | rfl | rfl | rfl
          · have y1 := (hne 45 (by decide) (by decide) (by decide) (by decide)).trans h45
            have y2 := (hne 46 (by decide) (by decide) (by decide) (by decide)).trans h46
            have y3 := (hne 47 (by decide) (by decide) (by decide) (by decide)).trans h47
            have hkc' : (k : Int) ≤ (cp : Int) := by omega
            refine Mix.wpOp_value rfl rfl (v := .slice ap k k) (W' := W) ?_ (hk _ _ (Below.refl _ _) rfl)
            simp [execOp, go_sem, y1, y2, y3, hkc']
          · have p0 := HPW.out.a0; have p1 := HPW.out.a1
            have y1 := (hne 9 (by decide) (by decide) (by decide) (by decide)).trans h9
            refine Mix.wpOp_value rfl rfl (v := .agg #[.int .i64 x, .int .i64 y]) (W' := W) ?_ (hk _ _ (Below.refl _ _) rfl)
            simp [execOp, go_sem, y1, p0, p1]
          · obtain ⟨v4, g4, rfl⟩ := hd (4, 49) (by decide) (by decide)
            have y1 : (Mix.putL A [(3, 48), (4, 49), (5, 50), (6, 51)] B).tmps[49]?.getD undef = .agg #[.int .i64 x, .int .i64 y] := by have := hev 4 49 _ (by decide) (by decide) g4; simpa [Act.eval] using this
            have hb0 : Below W.heap.size W (W.alloc (.cells #[.int .i64 x, .int .i64 y] 42)) := (Below.refl _ W).alloc (Nat.le_refl _) _
            have hr := Res.new W x y 42
            refine Mix.wpOp_value rfl rfl (v := .slice (some ⟨W.heap.size, 0, Option.none⟩) 1 1) (W' := W.alloc (.cells #[.int .i64 x, .int .i64 y] 42)) ?_ (hk _ _ hb0 ⟨_, rfl, hr.a0, hr.a1, by simp⟩)
            simp [execOp, go_sem, y1]
          · obtain ⟨v3, g3, rfl⟩ := hd (3, 48) (by decide) (by decide)
            obtain ⟨v5, g5, b, rfl, q0, q1, -⟩ := hd (5, 50) (by decide) (by decide)
            refine Mix.wpOp_of_list rfl (wpList_append_full (L := L1) (ap := ap) (n := k) HLT.out (HT.out _ _ (HRX2.out.mono hb (Nat.le_refl _))) (fun h => by have := HNIL.out h; omega) rfl _ _ 28 rfl i0 Try.underlying28 hi hz0 hz1 hz2 x y b 1 (hev 3 48 _ (by decide) (by decide) g3) (hev 5 50 _ (by decide) (by decide) g5) q0 q1 (by unfold maxLen; omega) (by omega) fun v' w' h1 h2 => ?_)
            exact hk _ _ h2 (World.ownsRow.mono h1 hb.size)
        case tail =>
          intro B W hb hB
          obtain ⟨v3, g3, rfl⟩ := hB (3, 48) (by decide)
          obtain ⟨v4, g4, rfl⟩ := hB (4, 49) (by decide)
          obtain ⟨v5, g5, b5, rfl, -⟩ := hB (5, 50) (by decide)
          obtain ⟨v6, g6, ho6⟩ := hB (6, 51) (by decide)
          dsimp only at g3 g4 g5 g6
          have HO6 := Lib.hid (show W.ownsRow w2.heap.size 42 2 v6 (k + 1) (pcells (L1 ++ [(x, y)])) from ho6)
          have hA := HA.out
          subst hA
          clear HA hsz h9 h45 h46 h47 hB ho6
          simp only [Mix.putL, g3, g4, g5, g6]
          clear g3 g4 g5 g6
          have HB3 : Hid (Below w.heap.size w W) := Lib.hid (HB2.out.trans (hb.mono HB2.out.size))
          have HX3 := Lib.hid (HX2.out.below hb (by have := HL2.out; omega))
          have HD3 := Lib.hid (HD2.out.below hb (by have := HL2.out; omega))
          have HL3 : Hid (w.heap.size + 3 ≤ w2.heap.size ∧ w2.heap.size ≤ W.heap.size) := Lib.hid (by have := hb.size; have := HL2.out; omega)
          have HBW := Lib.hid hb
          clear hb HX2 HP2 HD2 HL2 HB2
          refine Mix.wpAny_tail [false, false, false, false, false, false, false, true] (Array.replicate 8 true) (by kernel_rfl) (by kernel_rfl) ?_
          simp only [Mix.maskL, Act.put]
          go_wp2_with fail
          refine Mix.wp_region_plan (fun _ => True) [0, 6, 7, 8] [.free [false, true, true, true, true, true]] #[false, true, true, true, true, true, false, false, false, false, false, false, false] 8 mixed' (by kernel_rfl) (by kernel_rfl) (by kernel_rfl) (fun _ _ _ _ _ h => h) trivial ?_
          simp only [Mix.wpPlan, Mix.maskL]
          repeat (go_big_quiet_step (fail))
          refine wpQuiet_nil ?_
          have HB4 : Hid (Below w.heap.size w W.drew) := Lib.hid HB3.out.drew
          have HX4 := Lib.hid (HX3.out.below (Below.refl W.heap.size W).drew (by have := HL3.out; omega))
          have HD4 := Lib.hid (HD3.out.below (Below.refl W.heap.size W).drew (by have := HL3.out; omega))
          have HL4 : Hid (w.heap.size + 3 ≤ w2.heap.size ∧ w2.heap.size ≤ W.drew.heap.size) := Lib.hid (by have := HL3.out; simpa using this)
          have HBW4 := Lib.hid HBW.out.drew
          have HO4 := Lib.hid (owns_below HO6.out (Below.refl W.heap.size W).drew)
          clear HO6
          clear HB3 HX3 HD3 HL3 HBW
          generalize W.drew = w4 at *
          generalize hA : Act.mk _ _ = A
          have hsz : A.tmps.size = 63 := by rw [← hA]; rfl
          have h5 : A.tmps[5]?.getD undef = .pointer (some ⟨w.heap.size, 0, Option.none⟩) := by rw [← hA]; rfl
          have h55 : A.eval (.tmp 55) = v6 := by rw [← hA]; rfl
          have h56 : A.tmps[56]?.getD undef = .slice ap PL.length cp := by rw [← hA]; rfl
          have h57 : A.tmps[57]?.getD undef = .int .i64 k := by rw [← hA]; rfl
          have HA := Lib.hid hA
          clear hA
          refine Mix.wpAny_dagG w2.heap.size (wbG w2.heap.size) (fun i W => i = 7 → W.ownsRow w2.heap.size 42 2 v6 (k + 1) (pcells (L1 ++ [(x, y)]))) #[true, true, true, true, true, true, true, true, false, false, false, false, false] 5 [(0, 52), (6, 58), (7, 59)] wbD (wbF s h a2 (PL.length - k) (cp - k) w2.heap.size (k + 1 + (PL.length - k)) AM) (by decide) (by decide) (fun i _ => HO4.out) ?hop2 (wbG_below w2.heap.size) (wbF_mono s h a2 (PL.length - k) (cp - k) w2.heap.size (k + 1 + (PL.length - k)) AM w2.heap.size) (fun j i W W' hne hz hg e => by subst e; unfold wbG at hg; split at hg; exact absurd rfl hne; subst hg; exact hz rfl) (by kernel_rfl) ?tail2
          case hop2 =>
            intro p hp B W2 K hb hz hd hk
            have hne : ∀ d : Nat, d ≠ 52 → d ≠ 58 → d ≠ 59 → (Mix.putL A [(0, 52), (6, 58), (7, 59)] B).eval (.tmp d) = A.eval (.tmp d) := fun d e1 e2 e3 =>
              Mix.putL_ne A [(0, 52), (6, 58), (7, 59)] B d (by intro q hq; simp only [List.mem_cons, List.not_mem_nil, or_false] at hq; rcases hq with rfl | rfl | rfl <;> first | exact fun e => e1 e.symm | exact fun e => e2 e.symm | exact fun e => e3 e.symm)
            have hne' : ∀ d : Nat, d ≠ 52 → d ≠ 58 → d ≠ 59 → (Mix.putL A [(0, 52), (6, 58), (7, 59)] B).tmps[d]?.getD undef = A.tmps[d]?.getD undef := fun d e1 e2 e3 => by
              have := hne d e1 e2 e3
              simpa [Act.eval] using this
            simp only [List.mem_cons, List.not_mem_nil, or_false] at hp
            have HXW := Lib.hid (HX4.out.below hb (by have := HL4.out; omega))
            rcases hp with rfl | rfl | rfl
            · have c0 := HXW.out.c0; have c1 := HXW.out.c1; have c2 := HXW.out.c2; have c3 := HXW.out.c3; have c4 := HXW.out.c4; have c5 := HXW.out.c5
              have y1 := (hne' 5 (by decide) (by decide) (by decide)).trans h5
              refine Mix.wpOp_value rfl rfl (v := sval s h) (W' := W2) ?_ (hk _ _ rfl rfl)
              simp [execOp, go_sem, y1, c0, c1, c2, c3, c4, c5]
            · have y1 := (hne' 56 (by decide) (by decide) (by decide)).trans h56
              have y2 := (hne' 57 (by decide) (by decide) (by decide)).trans h57
              have hkl' : (k : Int) ≤ (PL.length : Int) := by omega
              refine Mix.wpOp_value rfl rfl (v := .slice a2 (PL.length - k) (cp - k)) (W' := W2) ?_ (hk _ _ rfl rfl)
              rw [← hA2]
              simp [execOp, go_sem, y1, y2, hkl']
            · obtain ⟨v6', g6, rfl⟩ := hd (6, 58) (by decide) (by decide)
              have y6 := Mix.putL_eval A [(0, 52), (6, 58), (7, 59)] B 6 58 _ (by decide) (by decide) (by decide) (by rw [hsz]; decide) g6
              refine Mix.wpOp_of_list rfl (wpList_append_pairsn (n := k + 1) (L := L1 ++ [(x, y)]) (hz rfl) (Nat.le_trans HL4.out.2 hb.size) rfl _ _ 28 rfl i0 Try.underlying28 hi hz0 hz1 hz2 a2 (PL.length - k) (cp - k) L2 HLD.out ((hne 55 (by decide) (by decide) (by decide)).trans h55) y6 (by rw [← hA2]; exact HDr.out _ ap cp (HRX2.out.mono (HBW4.out.trans hb) (Nat.le_refl _)) HCAP.out) HNN.out (by unfold maxLen; omega) (by omega) fun v' w' h1 h2 => ?_)
              have h1' : w'.ownsRow w2.heap.size 42 2 v' (k + 1 + (PL.length - k)) (pcells AM) := by rw [HAV.out]; simpa using h1
              exact hk _ _ h2 h1'
          case tail2 =>
            intro B W3 hb hB
            obtain ⟨v0, g0, rfl⟩ := hB (0, 52) (by decide)
            obtain ⟨v6', g6, rfl⟩ := hB (6, 58) (by decide)
            obtain ⟨v7, g7, ho7⟩ := hB (7, 59) (by decide)
            dsimp only at g0 g6 g7
            have ho7' : W3.ownsRow w2.heap.size 42 2 v7 (k + 1 + (PL.length - k)) (pcells AM) := ho7
            obtain ⟨aq, cq, rfl, -, hrq, -⟩ := owns2_arg ho7'
            have HRQ := Lib.hid hrq
            have hA := HA.out
            subst hA
            clear HA hsz h5 h55 h56 h57 hB ho7 ho7' hrq
            simp only [Mix.putL, g0, g6, g7]
            clear g0 g6 g7
            have HB5 : Hid (Below w.heap.size w W3) := Lib.hid (HB4.out.trans (hb.mono (by have := HL4.out; omega)))
            have HD5 := Lib.hid (HD4.out.below hb (by have := HL4.out; omega))
            have HL5 : Hid (w.heap.size + 3 ≤ W3.heap.size) := Lib.hid (by have := hb.size; have := HL4.out; omega)
            clear hb HX4 HD4 HL4 HB4 HO4 HBW4
            refine Mix.wpAny_mid 4 [false, false, false, false, false, false, false, false, true] #[true, true, true, true, true, true, true, true, true, false, false, false, false] (by kernel_rfl) ?_
            simp only [Mix.maskL, Act.put]
            go_wp2_with fail
            refine (HOV.out aq cq _ HB5.out HRQ.out).mono ?_
            rintro e w6 ⟨h6, rfl, ho, hb⟩
            have HO := Lib.hid ho
            have HB6 : Hid (Below w.heap.size w w6) := Lib.hid (HB5.out.trans (hb.mono HB5.out.size))
            have HD6 := Lib.hid (HD5.out.below hb (by have := HL5.out; omega))
            clear ho hb HD5 HB5 HRQ HOV
            go_wp2
            refine Mix.wpAny_fork (i := 9) (j := 10) (by kernel_rfl) rfl rfl ?_ ?_
            · go_wp2
              refine Mix.wpAny_tail [false, false, false, false, false, false, false, false, false, false, true, true, true] (Array.replicate 13 true) (by kernel_rfl) (by kernel_rfl) ?_
              simp only [Mix.maskL]
              have d0 := HD6.out.c0; have d1 := HD6.out.c1; have d2 := HD6.out.c2; have d3 := HD6.out.c3; have d4 := HD6.out.c4; have d5 := HD6.out.c5
              have f0 := HD6.out.f 0; have f1 := HD6.out.f 1; have f2 := HD6.out.f 2; have f3 := HD6.out.f 3; have f4 := HD6.out.f 4; have f5 := HD6.out.f 5

              go_wp2
              rw [stS_fold]
              have q0 := (stS_box (s := X) (h := h6) HD6.out).c0; have q1 := (stS_box (s := X) (h := h6) HD6.out).c1; have q2 := (stS_box (s := X) (h := h6) HD6.out).c2; have q3 := (stS_box (s := X) (h := h6) HD6.out).c3; have q4 := (stS_box (s := X) (h := h6) HD6.out).c4; have q5 := (stS_box (s := X) (h := h6) HD6.out).c5
              refine bodyPost_ret (v := .tuple #[sval X h6, .int .i64 0]) (by simp [results, Try.results18, sval, go_sem, q0, q1, q2, q3, q4, q5]) rfl ⟨h6, by rw [HV.out], ?_, ?_⟩
              · rw [HV.out]
                exact (stS_own HO.out (by have := HL5.out; omega)).mono (by have := HL5.out; omega) (by rw [stS_size]; exact Nat.le_refl _)
              · exact stS_below HB6.out (by omega)
            · go_wp2
              refine Mix.wpAny_tail [false, false, false, false, false, false, false, false, false, true, false, true, true] (Array.replicate 13 true) (by kernel_rfl) (by kernel_rfl) ?_
              simp only [Mix.maskL]
              have d0 := HD6.out.c0; have d1 := HD6.out.c1; have d2 := HD6.out.c2; have d3 := HD6.out.c3; have d4 := HD6.out.c4; have d5 := HD6.out.c5
              have f0 := HD6.out.f 0; have f1 := HD6.out.f 1; have f2 := HD6.out.f 2; have f3 := HD6.out.f 3; have f4 := HD6.out.f 4; have f5 := HD6.out.f 5

              go_wp2
              rw [stS_fold]
              have q0 := (stS_box (s := X) (h := h6) HD6.out).c0; have q1 := (stS_box (s := X) (h := h6) HD6.out).c1; have q2 := (stS_box (s := X) (h := h6) HD6.out).c2; have q3 := (stS_box (s := X) (h := h6) HD6.out).c3; have q4 := (stS_box (s := X) (h := h6) HD6.out).c4; have q5 := (stS_box (s := X) (h := h6) HD6.out).c5
              refine bodyPost_ret (v := .tuple #[sval X h6, .int .i64 0]) (by simp [results, Try.results18, sval, go_sem, q0, q1, q2, q3, q4, q5]) rfl ⟨h6, by rw [HV.out], ?_, ?_⟩
              · rw [HV.out]
                exact (stS_own HO.out (by have := HL5.out; omega)).mono (by have := HL5.out; omega) (by rw [stS_size]; exact Nat.le_refl _)
              · exact stS_below HB6.out (by omega)

end Go.Proofs.Ytfokbkkgokioeaa.Lay

namespace Go.Proofs.Ytfokbkkgokioeaa.Lay
open Go.RowKit Go.Shelf Go.Sort Go.Proofs.Ytfokbkkgokioeaa Go.Proofs.Ytfokbkkgokioeaa.Occ Go.Proofs.Ytfokbkkgokioeaa.Slo
attribute [local go_sem] Oper.semAt_some

/-- The three boxes. -/
def in2P (w : World) (s : Sl) (h : Hd) (a b x y : Int) : World := allocP (in2 w s h a b) x y
theorem in2P_below (w : World) (s : Sl) (h : Hd) (a b x y : Int) : Below w.heap.size w (in2P w s h a b x y) := (in2_below w s h a b).trans ((allocP_below _ x y).mono (by rw [in2_size]; omega))
theorem in2P_bs (w : World) (s : Sl) (h : Hd) (a b x y : Int) : BS (in2P w s h a b x y) w.heap.size s h := (in2_bs w s h a b).next (allocP_below _ x y)
theorem in2P_bt (w : World) (s : Sl) (h : Hd) (a b x y : Int) : BP (in2P w s h a b x y) (w.heap.size + 1) a b := (in2_bp w s h a b).next (allocP_below _ x y)
theorem in2P_bp (w : World) (s : Sl) (h : Hd) (a b x y : Int) : BP (in2P w s h a b x y) (w.heap.size + 2) x y := by
  have := allocP_bp (in2 w s h a b) x y
  rwa [in2_size] at this
theorem lenLe_even (s : Sl) (f t : Int) : LenLe (evenSV s f t).1 s := by
  unfold evenSV; split
  · exact lenLe_none s
  · exact lenLe_fill _ _ _ _ _
theorem lenLe_with (s : Sl) (f t k x y : Int) : LenLe (withSV s f t k x y).1 s := by
  unfold withSV; split
  · exact lenLe_none s
  · split
    · exact lenLe_none s
    · split
      · exact lenLe_none s
      · exact lenLe_fill _ _ _ _ _
theorem intoSV_len (s : Sl) (n : Int) (ps : List (Int × Int)) : (intoSV s n ps).1.ws.length ≤ 100000 ∧ (intoSV s n ps).1.ks.length ≤ 100000 ∧ (intoSV s n ps).1.vs.length ≤ 100000 ∧ (intoSV s n ps).1.cs.length ≤ 100000 := by
  unfold intoSV
  split
  · simp [noneS]
  · split
    · simp [noneS]
    · rename_i h1 h2
      have hf : fitsB s.seg n = true := by
        cases e : fitsB s.seg n
        · exact absurd (.inl e) h2
        · rfl
      obtain ⟨f1, f2, f3, f4, f5, f6, f7⟩ := fitsB_iff.1 hf
      have L := lenLe_fill (wideV s n) 0 n.toNat (Spr.placesL ps.length 0 (n.toNat - 0)) ps
      have a1 : (wideV s n).ws.length = (n.toNat + 63) / 64 := List.length_replicate
      have a2 : (wideV s n).ks.length = n.toNat := List.length_replicate
      have a3 : (wideV s n).vs.length = n.toNat := List.length_replicate
      have a4 : (wideV s n).cs.length = n.toNat / s.seg.toNat := List.length_replicate
      have := Nat.div_le_self n.toNat s.seg.toNat
      have b1 := L.w; have b2 := L.k; have b3 := L.v; have b4 := L.c
      show (fillV (wideV s n) 0 n.toNat (Spr.placesL ps.length 0 (n.toNat - 0)) ps).ws.length ≤ 100000 ∧ (fillV (wideV s n) 0 n.toNat (Spr.placesL ps.length 0 (n.toNat - 0)) ps).ks.length ≤ 100000 ∧ (fillV (wideV s n) 0 n.toNat (Spr.placesL ps.length 0 (n.toNat - 0)) ps).vs.length ≤ 100000 ∧ (fillV (wideV s n) 0 n.toNat (Spr.placesL ps.length 0 (n.toNat - 0)) ps).cs.length ≤ 100000
      omega

set_option maxRecDepth 100000 in
set_option maxHeartbeats 4000000 in
theorem lspoil_any (s : Sl) (h : Hd) (lo hi : Nat) (w : World) (O : SOwn w lo hi s h) (hlo : lo ≤ hi) (hhi : hi ≤ w.heap.size) (l1 : s.ws.length ≤ 1000000) (l2 : s.ks.length ≤ 1000000) (l3 : s.vs.length ≤ 1000000) (l4 : s.cs.length ≤ 1000000) :
    Calls Try.prog 14 #[sval s h] w fun e w' => e = .returned (.tuple #[]) ∧ Keeps lo hi w.heap.size w w' := by
  have HS0 : Hid (Sp w (w.alloc (.cells #[.int .i64 s.seg, .slice h.aw s.ws.length h.cw, .slice h.ak s.ks.length h.ck, .slice h.av s.vs.length h.cv, .slice h.ac s.cs.length h.cc, .int .u64 s.laid] 27)) lo hi w.heap.size s h) := Lib.hid
    ⟨⟨s, ⟨rfl, rfl, rfl, rfl⟩, O.below ((Below.refl _ w).alloc (Nat.le_refl _) _)⟩, BoxC.new w _ _ _ _ _ _ _, Keeps.of_below ((Below.refl w.heap.size w).alloc (Nat.le_refl _) _) (Nat.le_trans hlo hhi) (Nat.le_refl _)⟩
  clear O
  unfold sval
  go_enter Try.func14, Try.ntmps14
  go_wp2
  generalize w.alloc (.cells #[.int .i64 s.seg, .slice h.aw s.ws.length h.cw, .slice h.ak s.ks.length h.ck, .slice h.av s.vs.length h.cv, .slice h.ac s.cs.length h.cc, .int .u64 s.laid] 27) = w0 at *
  go_loopw [2] (fun i wr => ∃ k : Nat, k ≤ s.ks.length ∧ i = .int .i64 (k : Int) ∧ Sp w wr lo hi w.heap.size s h) (fun i _ => s.ks.length - (intOf i).toNat)
  case atStart => exact ⟨0, Nat.zero_le _, rfl, HS0.out⟩
  case round =>
    obtain ⟨k, hk, rfl, hS⟩ := hrel
    have HS := Lib.hid hS
    have c2 := hS.box.c2
    clear hS
    by_cases hlt : k < s.ks.length
    · obtain ⟨g, v, eg, cg, fg, lg, hT⟩ := HS.out.at_k hhi hlt
      have HT := Lib.hid (hT (-7))
      rw [eg] at c2
      clear eg hT
      go_wp2
      go_roundw
      case rel => exact ⟨k + 1, by omega, by go_num, HT.out⟩
      case measure => simp [intOf]; omega
    · have hnl : ¬ ((k : Int) < (s.ks.length : Int)) := by omega
      go_wp2
      clear c2 hnl hlt hk
      go_loopw [3] (fun i wr => ∃ k : Nat, k ≤ s.ws.length ∧ i = .int .i64 (k : Int) ∧ Sp w wr lo hi w.heap.size s h) (fun i _ => s.ws.length - (intOf i).toNat)
      case atStart => exact ⟨0, Nat.zero_le _, rfl, HS.out⟩
      case round =>
        obtain ⟨k, hk, rfl, hS⟩ := hrel
        have HS := Lib.hid hS
        have c1 := hS.box.c1
        clear hS
        by_cases hlt : k < s.ws.length
        · obtain ⟨g, v, eg, cg, fg, lg, hT⟩ := HS.out.at_w hhi hlt
          have HT := Lib.hid (hT 7)
          rw [eg] at c1
          clear eg hT
          go_wp2
          go_roundw
          case rel => exact ⟨k + 1, by omega, by go_num, HT.out⟩
          case measure => simp [intOf]; omega
        · have hnl : ¬ ((k : Int) < (s.ws.length : Int)) := by omega
          go_wp2
          clear c1 hnl hlt hk
          go_loopw [4] (fun i wr => ∃ k : Nat, k ≤ s.cs.length ∧ i = .int .i64 (k : Int) ∧ Sp w wr lo hi w.heap.size s h) (fun i _ => s.cs.length - (intOf i).toNat)
          case atStart => exact ⟨0, Nat.zero_le _, rfl, HS.out⟩
          case round =>
            obtain ⟨k, hk, rfl, hS⟩ := hrel
            have HS := Lib.hid hS
            have c4 := hS.box.c4
            clear hS
            by_cases hlt : k < s.cs.length
            · obtain ⟨g, v, eg, cg, fg, lg, hT⟩ := HS.out.at_c hhi hlt
              have HT := Lib.hid (hT (-7))
              rw [eg] at c4
              clear eg hT
              go_wp2
              go_roundw
              case rel => exact ⟨k + 1, by omega, by go_num, HT.out⟩
              case measure => simp [intOf]; omega
            · have hnl : ¬ ((k : Int) < (s.cs.length : Int)) := by omega
              go_wp2
              go_end0
              exact ⟨rfl, HS.out.keeps⟩
end Go.Proofs.Ytfokbkkgokioeaa.Lay
