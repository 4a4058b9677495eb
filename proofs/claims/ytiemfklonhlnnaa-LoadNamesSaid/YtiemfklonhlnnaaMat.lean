/- The law LoadNames: its walk, the first part. -/
import Derived.Test.YtiemfklonhlnnaaMas
set_option linter.unusedSimpArgs false
set_option linter.unusedVariables false
namespace Go.Proofs.Ytiemfklonhlnnaa.Load
open Go.RowKit Go.Shelf Go.Sort Go.Proofs.Ytiemfklonhlnnaa Go.Proofs.Ytiemfklonhlnnaa.Occ Go.Proofs.Ytiemfklonhlnnaa.Slo Go.Proofs.Ytiemfklonhlnnaa.Seek Go.Proofs.Ytiemfklonhlnnaa.Lay
attribute [local go_sem] sval cval mval Oper.semAt_some
attribute [local irreducible] Code.wp
/-- What is left of a walk that is cut: its statement is read off the walk itself. -/
structure Rest (p : Prop) : Prop where
  out : p
/-- What the operations of a drawn region have yielded. -/
def naF (w : World) (c : Conf.Cfg) (Sm : Sl) (hm : Hd) (bn : Nat) (B : Nat → Option Value) : Nat → Value → World → Prop
  | 0, v, W => v = mval c Sm hm
  | 1, _, _ => True
  | 2, _, _ => True
  | 3, v, W => B 4 = none → ∃ a, v = .slice (some a) 1 1 ∧ Rd2 W (some a) [(0, 0)]
  | 4, v, W => B 5 = none → ∃ a k, v = .slice a 10 k ∧ Rd2 W a nine10
  | 5, v, W => ∃ h, v = .tuple #[mval cz noneS h, .int .i64 130]
  | 6, v, W => ∃ h, v = .tuple #[mval cz noneS h, .int .i64 130]
  | 7, v, W => ∃ h, v = mval cz noneS h
  | 8, v, W => v = .int .i64 130
  | 9, v, W => ∃ b, v = .pointer (some ⟨b, 0, Option.none⟩) ∧ w.heap.size ≤ b ∧ (B 10 = none → BV W b mz ∧ TB W b)
  | 10, _, _ => True
  | 11, v, W => v = .int .i64 130
  | _, _, _ => True
theorem naF_mono {w : World} {c : Conf.Cfg} {Sm : Sl} {hm : Hd} {bn : Nat} {B : Nat → Option Value} {k : Nat} {u : Value} : ∀ {i v W W'}, naF w c Sm hm bn B i v W → Below W.heap.size W W' → naF w c Sm hm bn (Mix.updV B k u) i v W'
  | 0, v, W, W', h, hb => h
  | 1, v, W, W', h_, _ => trivial
  | 2, v, W, W', h_, _ => trivial
  | 3, v, W, W', h, hb => fun e => (fun h => (fun ⟨a, h, r⟩ => ⟨a, h, r.mono hb (Nat.le_refl _)⟩) h) (h (Mix.updV_none e).2)
  | 4, v, W, W', h, hb => fun e => (fun h => (fun ⟨a, k, h, r⟩ => ⟨a, k, h, r.mono hb (Nat.le_refl _)⟩) h) (h (Mix.updV_none e).2)
  | 5, v, W, W', h, hb => h
  | 6, v, W, W', h, hb => h
  | 7, v, W, W', h, hb => h
  | 8, v, W, W', h, hb => h
  | 9, v, W, W', h, hb => (fun ⟨b, h, hl, bx⟩ => ⟨b, h, hl, fun e => ⟨(bx (Mix.updV_none e).2).1.next hb, (bx (Mix.updV_none e).2).2.next (bx (Mix.updV_none e).2).1.lt hb⟩⟩) h
  | 10, v, W, W', h, _ => trivial
  | 11, v, W, W', h, hb => h
  | _ + 12, _, _, _, _, _ => trivial
theorem naF_store {w : World} {c : Conf.Cfg} {Sm : Sl} {hm : Hd} {bn : Nat} {B : Nat → Option Value} {u : Value} (h4 : B 4 ≠ none) (h5 : B 5 ≠ none) : ∀ {i v W W'}, naF w c Sm hm bn B i v W → naF w c Sm hm bn (Mix.updV B 10 u) i v W'
  | 0, v, W, W', h => h
  | 1, v, W, W', h_ => trivial
  | 2, v, W, W', h_ => trivial
  | 3, v, W, W', h => fun e => absurd (Mix.updV_none e).2 h4
  | 4, v, W, W', h => fun e => absurd (Mix.updV_none e).2 h5
  | 5, v, W, W', h => h
  | 6, v, W, W', h => h
  | 7, v, W, W', h => h
  | 8, v, W, W', h => h
  | 9, v, W, W', h => (fun ⟨b, h, hl, _⟩ => ⟨b, h, hl, fun e => absurd rfl (Mix.updV_none e).1⟩) h
  | 10, v, W, W', h => trivial
  | 11, v, W, W', h => h
  | _ + 12, _, _, _, _ => trivial
structure naI (w : World) (c : Conf.Cfg) (Sm : Sl) (hm : Hd) (bn : Nat) (B : Nat → Option Value) (W : World) : Prop where
  below : Below w.heap.size w W
  f : ∀ i v, B i = some v → naF w c Sm hm bn B i v W
theorem naI.next {w W W' : World} {c : Conf.Cfg} {Sm : Sl} {hm : Hd} {bn : Nat} {B : Nat → Option Value} {k : Nat} {u : Value} (h : naI w c Sm hm bn B W) (hb : Below W.heap.size W W') (hu' : naF w c Sm hm bn (Mix.updV B k u) k u W') : naI w c Sm hm bn (Mix.updV B k u) W' :=
  ⟨h.below.trans (hb.mono h.below.size), fun i v hv => by
    rcases Mix.updV_some hv with ⟨rfl, rfl⟩ | ⟨-, hv'⟩
    · exact hu'
    · exact naF_mono (h.f i v hv') hb⟩
theorem naI.store {w W W' : World} {c : Conf.Cfg} {Sm : Sl} {hm : Hd} {bn : Nat} {B : Nat → Option Value} {u : Value} (h : naI w c Sm hm bn B W) (hb : Below w.heap.size w W') (h4 : B 4 ≠ none) (h5 : B 5 ≠ none) : naI w c Sm hm bn (Mix.updV B 10 u) W' :=
  ⟨hb, fun i v hv => by
    rcases Mix.updV_some hv with ⟨rfl, rfl⟩ | ⟨-, hv'⟩
    · trivial
    · exact naF_store h4 h5 (h.f i v hv')⟩
def naD : Nat → List Nat
  | 4 => [3]
  | 5 => [0, 4]
  | 6 => [5]
  | 7 => [6]
  | 8 => [6]
  | 10 => [4, 5, 7, 9]
  | 11 => [8]
  | _ => []
def naS : List (Nat × Option Tmp) := [(0, some 52), (3, some 55), (4, some 56), (5, some 57), (6, some 51), (7, some 58), (8, some 59), (9, some 8), (10, none), (11, some 9)]
set_option maxRecDepth 100000 in
set_option maxHeartbeats 16000000 in
def namesA (w : World) : {P : Prop // Rest P → Calls Try.prog 3 #[] w fun e w' => e = .returned (.bool true) ∧ Below w.heap.size w w'} := ⟨_, fun hrest => by
  obtain ⟨c, hc⟩ : ∃ c, c = c0 := ⟨_, rfl⟩
  have HCm : Hid (∀ al cl w1, Rd2 w1 al [(1, 0), (2, 0)] → Calls Try.prog 4 #[.slice al 2 cl] w1 fun e w' => ∃ h', e = .returned (mval c sm h') ∧ SOwn w' w1.heap.size w'.heap.size sm h' ∧ Below w1.heap.size w1 w') := Lib.hid (fun al cl w1 R => chapter_any c al cl [(1, 0), (2, 0)] w1 hc (by decide) (by decide) R)
  have HC9 : Hid (∀ al cl w1, Rd2 w1 al [(9, 0)] → Calls Try.prog 4 #[.slice al 1 cl] w1 fun e w' => ∃ h', e = .returned (mval c s9 h') ∧ SOwn w' w1.heap.size w'.heap.size s9 h' ∧ Below w1.heap.size w1 w') := Lib.hid (fun al cl w1 R => chapter_any c al cl [(9, 0)] w1 hc (by decide) (by decide) R)
  have HLe : Hid (∀ h al cl w1, MRd w1 sm h → Rd2 w1 al [(2, 0), (2, 0)] → Calls Try.prog 5 #[mval c sm h, .slice al 2 cl] w1 fun e w' => AnsM ((cz, noneS), 130) w1 e w') := Lib.hid (fun h al cl w1 R RP => by
    have := Load_any c sm h al cl [(2, 0), (2, 0)] w1 hc sm_good R RP (by decide)
    rw [show LoadV sm [(2, 0), (2, 0)] = ((cz, noneS), 130) by unfold LoadV; rw [if_neg (by decide)]] at this
    exact this)
  have HLf : Hid (∀ h al cl w1, MRd w1 sm h → Rd2 w1 al nine → Calls Try.prog 5 #[mval c sm h, .slice al 9 cl] w1 fun e w' => AnsM ((cz, noneS), 9) w1 e w') := Lib.hid (fun h al cl w1 R RP => by
    have := Load_any c sm h al cl nine w1 hc sm_good R RP (by decide)
    rw [show LoadV sm nine = ((cz, noneS), 9) by unfold LoadV; rw [if_pos (by decide)]; exact if_pos (by decide)] at this
    exact this)
  have HLg : Hid (∀ h al cl w1, MRd w1 sm h → Rd2 w1 al nine10 → Calls Try.prog 5 #[mval c sm h, .slice al 10 cl] w1 fun e w' => AnsM ((cz, noneS), 130) w1 e w') := Lib.hid (fun h al cl w1 R RP => by
    have := Load_any c sm h al cl nine10 w1 hc sm_good R RP (by decide)
    rw [show LoadV sm nine10 = ((cz, noneS), 130) by unfold LoadV; rw [if_neg (by decide)]] at this
    exact this)
  have HLz : Hid (∀ h al cl w1, MRd w1 sm h → Rd2 w1 al eight → Calls Try.prog 5 #[mval c sm h, .slice al 8 cl] w1 fun e w' => AnsM ((c, sz), 0) w1 e w') := Lib.hid (fun h al cl w1 R RP => by
    have := Load_any c sm h al cl eight w1 hc sm_good R RP (by decide)
    rw [show LoadV sm eight = ((c, sz), 0) by unfold LoadV; rw [if_pos (by decide), hc]; exact if_neg (by decide)] at this
    exact this)
  have HRx : Hid (∀ h w1, MRd w1 sm h → Calls Try.prog 6 #[mval c sm h, .int .i64 5, .int .i64 3] w1 fun e w' => ∃ h', e = .returned (.tuple #[mval c sx h', .int .i64 0, .int .i64 0]) ∧ SOwn w' w1.heap.size w'.heap.size sx h' ∧ Below w1.heap.size w1 w') := Lib.hid (fun h w1 R => by
    have := Range_any c sm h 5 3 [(1, 0), (2, 0)] w1 hc sm_good R (by decide) (by rw [sm_all]; decide) (by
      intro al cl n0 p1 p2 w1 C hO hn0
      obtain ⟨a2, c2, e2, -, hrp, -⟩ := owns2_arg hO
      simp only [Value.slice.injEq] at e2
      obtain ⟨rfl, -, rfl⟩ := e2
      have := delete_none al cl (allP sm) 5 3 p1 p2 w1 C hrp (by rw [sm_all]; decide) (by rw [sm_all]; intro j hj; have h3 : j = 0 ∨ j = 1 := (by simp at hj; omega); rcases h3 with rfl | rfl <;> decide)
      refine this.mono ?_
      rintro e w' ⟨rfl, hb⟩
      refine ⟨by rw [sm_all], ?_, hb.mono hn0⟩
      have h4 := hrp.mono hb (Nat.le_refl _)
      rw [sm_all] at h4
      exact h4
      )
    rw [show (((allP sm).length - ([(1, 0), (2, 0)] : List (Int × Int)).length : Nat) : Int) = 0 by rw [sm_all]; rfl] at this
    exact this)
  have HRy : Hid (∀ h w1, MRd w1 sm h → Calls Try.prog 7 #[mval c sm h] w1 fun e w' => AnsM ((c, sx), 0) w1 e w') := Lib.hid (fun h w1 R => by
    have := Rebuild_any c sm h w1 hc sm_good R
    rw [sm_all, show anewV sm [(1, 0), (2, 0)] = ((c, sx), 0) by rw [hc]; exact if_neg (by decide)] at this
    exact this)
  have HMk : Hid (∀ h g w1, MRd w1 sz h → MRd w1 s9 g → Calls Try.prog 8 #[mval c sz h, mval c s9 g] w1 fun e w' => AnsM ((cz, noneS), 9) w1 e w') := Lib.hid (fun h g w1 R1 R2 => by
    have := Merge_any c sz h s9 g w1 hc sz_good R1 s9_good R2
    rw [z9_both, show anewV sz (nine.set 8 (9, 0)) = ((cz, noneS), 9) from if_pos (by decide)] at this
    exact this)
  have HMl : Hid (∀ h w1, Calls Try.prog 8 #[mval cz noneS noneH, mval c sm h] w1 fun e w' => AnsM ((cz, noneS), 50) w1 e w') := Lib.hid (fun h w1 => Merge_no1 cz noneS noneH c sm h w1 cz_wf (by decide))
  have HMo : Hid (∀ h w1, MRd w1 sm h → Calls Try.prog 8 #[mval c sm h, mval cz noneS noneH] w1 fun e w' => AnsM ((cz, noneS), 50) w1 e w') := Lib.hid (fun h w1 R => Merge_no2 c sm h cz noneS noneH w1 hc sm_good R cz_wf (by decide))
  have HHx : Hid (∀ h al cl w1, MRd w1 sx h → Rd2 w1 al [(1, 0), (2, 0)] → Calls Try.prog 10 #[mval c sx h, .slice al 2 cl] w1 fun e w' => e = .returned (.bool true) ∧ Below w1.heap.size w1 w') := Lib.hid (fun h al cl w1 R RP => by
    have := has_any c sx h al cl [(1, 0), (2, 0)] w1 hc sx_good R RP (by decide)
    rw [sx_all] at this
    exact this.mono (by rintro e w' ⟨rfl, hb⟩; exact ⟨by simp, hb⟩))
  have HAL := Lib.hid (fun w1 => alive_any w1)
  have t1 : (sx.laid == 4) = true := by rw [sx_laid]; rfl
  have t2 : (sz.laid == 10) = true := by rw [sz_laid]; rfl
  have T12 := Lib.hid (And.intro t1 t2)
  clear hc t1 t2
  unfold AnsM at HLe HLf HLg HLz HRy HMk HMl HMo
  dsimp only at HLe HLf HLg HLz HRy HMk HMl HMo
  generalize sm = Sm at *
  generalize sx = Sx at *
  generalize sz = Sz at *
  generalize s9 = S9 at *
  have E0 := Lib.hid ((St.below w))
  go_enter Try.func3, Try.ntmps3
  go_wp2_with fail
  have E1 := Lib.hid ((E0.out.next (below_lit w (.cells #[.int .i64 1, .int .i64 0, .int .i64 2, .int .i64 0] 34))).and (St.rd2 (by have hl := rd2_lits (w := w) (news := #[.int .i64 1, .int .i64 0, .int .i64 2, .int .i64 0]) (zs := [(1, 0), (2, 0)]) rfl rfl (by decide); exact hl)))
  generalize w.alloc (.cells #[.int .i64 1, .int .i64 0, .int .i64 2, .int .i64 0] 34) = wl1 at *
  refine (HCm.out _ _ _ E1.out.now.1).mono ?_
  rintro e w2 ⟨hm, rfl, ho, hb⟩
  have E2 := Lib.hid (((E1.out.next hb).and (St.own ho)).and (St.mrd (SOwn.mrd ho)))
  clear hb
  clear ho HCm
  have HBX := allocM_bv w2 c Sm hm
  go_wp2_with (first | (refine wpList_store_newmap _ _ rfl rfl rfl rfl ?_) | (refine wpList_load_map _ rfl rfl rfl HBX rfl ?_))
  clear HBX
  rw [allocM_fold]
  have hz2 := allocM_size w2 c Sm hm
  have E3 := Lib.hid ((E2.out.next (allocM_below w2 c Sm hm)).and (St.bv (allocM_bv w2 c Sm hm)))
  generalize allocM w2 c Sm hm = wm3 at *
  have E4 := Lib.hid ((E3.out.next (below_lit wm3 (.cells #[.int .i64 2, .int .i64 0, .int .i64 2, .int .i64 0] 34))).and (St.rd2 (by have hl := rd2_lits (w := wm3) (news := #[.int .i64 2, .int .i64 0, .int .i64 2, .int .i64 0]) (zs := [(2, 0), (2, 0)]) rfl rfl (by decide); rw [hz2] at hl; exact hl)))
  generalize wm3.alloc (.cells #[.int .i64 2, .int .i64 0, .int .i64 2, .int .i64 0] 34) = wl4 at *
  clear hz2
  refine (HLe.out hm _ _ _ E4.out.now.2.2.1 E4.out.now.1).mono ?_
  rintro e w5 ⟨h2, rfl, ho, hb⟩
  have E5 := Lib.hid (E4.out.next hb)
  clear hb
  clear ho HLe
  have hm9 := make9_run
  go_wp2_with (first | (refine wpList_store_newmap _ _ rfl rfl rfl rfl ?_))
  clear hm9
  rw [allocM_fold]
  have hz5 := allocM_size w5 cz noneS h2
  have E6 := Lib.hid ((E5.out.next (allocM_below w5 cz noneS h2)).and (St.bv (allocM_bv w5 cz noneS h2)))
  generalize allocM w5 cz noneS h2 = wm6 at *
  go_loopw [5] (fun i wr => ∃ k : Nat, k ≤ 9 ∧ i = .int .i64 k ∧ wr.ownsRow (w5.heap.size + 1) 34 2 (.slice (some ⟨w5.heap.size + 1, 0, Option.none⟩) 9 9) 9 (pcells (fillK k)) ∧ Below (w5.heap.size + 1) wm6 wr) (fun i _ => 9 - (intOf i).toNat)
  case atStart => exact ⟨0, by decide, rfl, by have := made9_owns wm6; rw [hz5] at this; exact this, (Below.refl _ _).alloc (by rw [hz5]; exact Nat.le_refl _) _⟩
  case round =>
    obtain ⟨k, hk, rfl, ho, hb⟩ := hrel
    by_cases hlt : k < 9
    · have hpl : k < (fillK k).length := by rw [fillK_len]; exact hlt
      have cg := ho.cellAt (k * 2) (by omega)
      rw [(pcells_get (fillK k) k hpl).1] at cg
      have fg := ho.frozenAt (k * 2)
      have hst := (ho.stored (k * 2) (.int .i64 (k : Int))).1
      rw [pcells_set (fillK k) k _ hpl, fillK_set ⟨k, hlt⟩] at hst
      have HST := Lib.hid hst
      have HBB := Lib.hid hb
      clear hst ho hb hpl
      generalize ((fillK k).getD k (0, 0)).1 = u at *
      go_wp2
      go_roundw
      case rel => exact ⟨k + 1, by omega, by go_num, HST.out, HBB.out.setCell (p := ⟨w5.heap.size + 1, k * 2, Option.none⟩) (Nat.le_refl _) _⟩
      case measure => simp [intOf]; omega
    obtain rfl : k = 9 := by omega
    have hb2 : Below wm6.heap.size wm6 wr := by rw [hz5]; exact hb
    rw [fillK_nine] at ho
    obtain ⟨bn, hbn⟩ : ∃ bn, bn = w5.heap.size + 1 := ⟨_, rfl⟩
    rw [← hbn] at ho ⊢
    clear hbn hb
    obtain ⟨a9, k9, e9, -, hrn, -⟩ := owns2_arg ho
    simp only [Value.slice.injEq] at e9
    obtain ⟨rfl, -, rfl⟩ := e9
    have E7 := Lib.hid (((E6.out.next hb2).and (St.rd2 hrn)).and (St.rd2 (rd2_take8 hrn)))
    clear hb2 ho hrn hlt hk hz5
    have HBX := E7.out.now.2.2.2.2.1
    go_wp2_with (first | (refine wpList_load_map _ rfl rfl rfl HBX rfl ?_))
    clear HBX
    refine (HLf.out hm _ _ _ E7.out.now.2.2.2.2.2.1 E7.out.now.2.1).mono ?_
    rintro e w8 ⟨h6, rfl, ho, hb⟩
    have E8 := Lib.hid (E7.out.next hb)
    clear hb
    clear ho HLf
    go_wp2_with (first | (refine wpList_store_newmap _ _ rfl rfl rfl rfl ?_))
    skip
    rw [allocM_fold]
    have hz8 := allocM_size w8 cz noneS h6
    have E9 := Lib.hid ((E8.out.next (allocM_below w8 cz noneS h6)).and (St.bv (allocM_bv w8 cz noneS h6)))
    generalize allocM w8 cz noneS h6 = wm9 at *
    clear hz8
    refine Mix.wp_region_plan (fun _ => True) [0, 3, 9] [.free [false, true, true]] #[false, true, true, false, false, false, false, false, false, false, false, false] 10 mixed' (by kernel_rfl) (by kernel_rfl) (by kernel_rfl) (fun _ _ _ _ _ h => h) trivial ?_
    simp only [Mix.wpPlan, Mix.maskL]
    refine quiet_by (.slice (some ⟨bn, 0, Option.none⟩) 9 9) rfl (fun W' _ => by simp [execOp, go_sem]) ?_
    refine quiet_by (.agg #[.int .i64 0, .int .i64 0]) rfl (fun W' _ => by simp [execOp, go_sem, zero_pair]) ?_
    refine wpQuiet_nil ?_
    simp only [Act.put]
    change wpAny _ _ _ _ (0 + 10) _ _ _
    refine Mix.any_gen (w := wm9) (Below.refl _ _).drew ?_
    intro wx hbx
    have E10 := Lib.hid (E9.out.next hbx)
    clear hbx
    generalize hA : Act.mk _ _ = A1
    have hszA1 : A1.tmps.size = 166 := by rw [← hA]; rfl
    have hf1 : A1.eval (.tmp 1) = .pointer (some ⟨w2.heap.size, 0, Option.none⟩) := by rw [← hA]; rfl
    have hf4 : A1.eval (.tmp 4) = .slice (some ⟨bn, 0, Option.none⟩) 9 9 := by rw [← hA]; rfl
    have hf53 : A1.eval (.tmp 53) = .slice (some ⟨bn, 0, Option.none⟩) 9 9 := by rw [← hA]; rfl
    have hf54 : A1.eval (.tmp 54) = .agg #[.int .i64 0, .int .i64 0] := by rw [← hA]; rfl
    have HA1 := Lib.hid hA
    clear hA
    refine Mix.wpAny_dagO (Array.replicate 12 true) 0 naS naD (naI wx c Sm hm bn) (by decide) (by decide) ⟨Below.refl _ _, fun i v hv => by cases hv⟩ ?hop (by kernel_rfl) ?tail
    case hop =>
      intro p hp B W K hI hBn hd hk
      have EW := Lib.hid (E10.out.next hI.below)
      have hf1' : (Mix.putO A1 naS B).tmps[1]?.getD undef = .pointer (some ⟨w2.heap.size, 0, Option.none⟩) := by have := (Mix.putO_ne A1 naS B 1 (by decide)).trans hf1; simpa [Act.eval] using this
      have hf4' : (Mix.putO A1 naS B).tmps[4]?.getD undef = .slice (some ⟨bn, 0, Option.none⟩) 9 9 := by have := (Mix.putO_ne A1 naS B 4 (by decide)).trans hf4; simpa [Act.eval] using this
      have hf53' : (Mix.putO A1 naS B).tmps[53]?.getD undef = .slice (some ⟨bn, 0, Option.none⟩) 9 9 := by have := (Mix.putO_ne A1 naS B 53 (by decide)).trans hf53; simpa [Act.eval] using this
      have hf54' : (Mix.putO A1 naS B).tmps[54]?.getD undef = .agg #[.int .i64 0, .int .i64 0] := by have := (Mix.putO_ne A1 naS B 54 (by decide)).trans hf54; simpa [Act.eval] using this
      have hev : ∀ i d v, (i, some d) ∈ naS → d < 166 → B i = some v → (Mix.putO A1 naS B).tmps[d]?.getD undef = v := fun i d v h1 h2 h3 => by have := Mix.putO_eval A1 naS B i d v (by decide) (by decide) h1 (by rw [hszA1]; exact h2) h3; simpa [Act.eval] using this
      simp only [naS, List.mem_cons, List.not_mem_nil, or_false] at hp
      rcases hp with rfl | rfl | rfl | rfl | rfl | rfl | rfl | rfl | rfl | rfl
      · have cc := EW.out.now.2.2.2.2.2.1
        have c0 := cc.c 0 _ rfl; have c1 := cc.c 1 _ rfl; have c2 := cc.c 2 _ rfl; have c3 := cc.c 3 _ rfl; have c4 := cc.c 4 _ rfl; have c5 := cc.c 5 _ rfl; have c6 := cc.c 6 _ rfl; have c7 := cc.c 7 _ rfl; have c8 := cc.c 8 _ rfl; have c9 := cc.c 9 _ rfl; have c10 := cc.c 10 _ rfl; have c11 := cc.c 11 _ rfl; have c12 := cc.c 12 _ rfl; have c13 := cc.c 13 _ rfl; have c14 := cc.c 14 _ rfl
        refine Mix.wpOp_value rfl rfl (v := mval c Sm hm) (W' := W) ?_ (hk _ _ (hI.next (Below.refl _ _) rfl))
        simp [execOp, go_sem, mval, hf1', c0, c1, c2, c3, c4, c5, c6, c7, c8, c9, c10, c11, c12, c13, c14]
      · refine Mix.wpOp_value rfl rfl (v := .slice (some ⟨W.heap.size, 0, Option.none⟩) 1 1) (W' := W.alloc (.cells #[.int .i64 0, .int .i64 0] 34)) ?_ (hk _ _ (hI.next (below_lit _ _) (fun _ => ⟨_, rfl, rd2_lits (w := W) (news := #[.int .i64 0, .int .i64 0]) (zs := [(0, 0)]) rfl rfl (by decide)⟩)))
        simp [execOp, go_sem, hf54']
      · obtain ⟨v3, g3⟩ := hd (3, some 55) (by decide) (by decide)
        obtain ⟨a3, rfl, r3⟩ := hI.f 3 _ g3 hBn
        have y3 := hev 3 55 _ (by decide) (by decide) g3
        obtain ⟨a', k', W', hrun, hrd, hbl⟩ := append9 W bn a3 (EW.out.now.2.2.1) r3 38
        refine Mix.wpOp_value rfl rfl (v := .slice a' 10 k') (W' := W') ?_ (hk _ _ (hI.next hbl (fun _ => ⟨a', k', rfl, hrd⟩)))
        have z3 := Mix.putO_eval A1 naS B 3 55 _ (by decide) (by decide) (by decide) (by rw [hszA1]; decide) g3
        have z1 := (Mix.putO_ne A1 naS B 53 (by decide)).trans hf53
        simp [execOp, resolve, invoke, builtin, z1, z3, hrun, Result.andThen]
      · obtain ⟨v0, g0⟩ := hd (0, some 52) (by decide) (by decide)
        obtain rfl := hI.f 0 _ g0
        have y0 := hev 0 52 _ (by decide) (by decide) g0
        obtain ⟨v4, g4⟩ := hd (4, some 56) (by decide) (by decide)
        obtain ⟨a4, k4, rfl, r4⟩ := hI.f 4 _ g4 hBn
        have y4 := hev 4 56 _ (by decide) (by decide) g4
        refine Mix.wpOp_call rfl rfl (f := 5) (args := #[mval c Sm hm, .slice a4 10 k4]) ?_ ((HLg.out hm a4 k4 W (EW.out.now.2.2.2.2.2.2.1) r4).mono ?_)
        · simp [execOp, resolve, go_sem, y0, y4]
        · rintro e w' ⟨h', rfl, ho, hb'⟩
          exact ⟨_, rfl, hk _ _ (hI.next hb' ⟨h', rfl⟩)⟩
      · obtain ⟨v5, g5⟩ := hd (5, some 57) (by decide) (by decide)
        obtain ⟨h', rfl⟩ := hI.f 5 _ g5
        have y5 := hev 5 57 _ (by decide) (by decide) g5
        refine Mix.wpOp_value rfl rfl (v := .tuple #[mval cz noneS h', .int .i64 130]) (W' := W) ?_ (hk _ _ (hI.next (Below.refl _ _) ⟨h', rfl⟩))
        simp [execOp, go_sem, y5]
      · obtain ⟨v6, g6⟩ := hd (6, some 51) (by decide) (by decide)
        obtain ⟨h', rfl⟩ := hI.f 6 _ g6
        have y6 := hev 6 51 _ (by decide) (by decide) g6
        refine Mix.wpOp_value rfl rfl (v := mval cz noneS h') (W' := W) ?_ (hk _ _ (hI.next (Below.refl _ _) ⟨h', rfl⟩))
        simp [execOp, go_sem, y6]
      · obtain ⟨v6, g6⟩ := hd (6, some 51) (by decide) (by decide)
        obtain ⟨h', rfl⟩ := hI.f 6 _ g6
        have y6 := hev 6 51 _ (by decide) (by decide) g6
        refine Mix.wpOp_value rfl rfl (v := .int .i64 130) (W' := W) ?_ (hk _ _ (hI.next (Below.refl _ _) rfl))
        simp [execOp, go_sem, y6]
      · refine Mix.wpOp_value rfl rfl (v := .pointer (some ⟨W.heap.size, 0, Option.none⟩)) (W' := allocMZ W) ?_ (hk _ _ (hI.next (allocMZ_below W) ⟨_, rfl, hI.below.size, fun _ => ⟨allocMZ_bv W, TB.new W⟩⟩))
        simp [execOp, go_sem, allocMZ]
        try rfl
      · obtain ⟨v4, g4⟩ := hd (4, some 56) (by decide) (by decide)
        obtain ⟨v5, g5⟩ := hd (5, some 57) (by decide) (by decide)
        obtain ⟨v7, g7⟩ := hd (7, some 58) (by decide) (by decide)
        obtain ⟨h', rfl⟩ := hI.f 7 _ g7
        have y7 := hev 7 58 _ (by decide) (by decide) g7
        obtain ⟨v9, g9⟩ := hd (9, some 8) (by decide) (by decide)
        obtain ⟨b, rfl, hlb, bx⟩ := hI.f 9 _ g9
        have y9 := hev 9 8 _ (by decide) (by decide) g9
        obtain ⟨bx1, bx2⟩ := bx hBn
        have hth : W.there b 0 15 := BV.there bx1 rfl
        have hrun := store_pma W b cz.tag cz.most cz.seg cz.least cz.den cz.ll cz.rl cz.rh cz.lh noneS.seg noneS.laid h'.aw h'.ak h'.av h'.ac noneS.ws.length h'.cw noneS.ks.length h'.ck noneS.vs.length h'.cv noneS.cs.length h'.cc hth
        refine Mix.wpOp_skip rfl rfl (W' := stV W b 0 [.int .u8 cz.tag, .int .i64 cz.most, .int .i64 cz.seg, .int .i64 cz.least, .int .i64 cz.den, .int .i64 cz.ll, .int .i64 cz.rl, .int .i64 cz.rh, .int .i64 cz.lh, .int .i64 noneS.seg, .slice h'.aw noneS.ws.length h'.cw, .slice h'.ak noneS.ks.length h'.ck, .slice h'.av noneS.vs.length h'.cv, .slice h'.ac noneS.cs.length h'.cc, .int .u64 noneS.laid]) ?_ (hk _ _ (hI.store (stV_below hI.below hlb) (by rw [g4]; simp) (by rw [g5]; simp)))
        rw [setCells_stV] at hrun
        have z7 := Mix.putO_eval A1 naS B 7 58 _ (by decide) (by decide) (by decide) (by rw [hszA1]; decide) g7
        have z9 := Mix.putO_eval A1 naS B 9 8 _ (by decide) (by decide) (by decide) (by rw [hszA1]; decide) g9
        unfold mval at z7
        clear y7 y9
        exact run_store_op rfl z9 z7 hrun
      · obtain ⟨v8, g8⟩ := hd (8, some 59) (by decide) (by decide)
        obtain rfl := hI.f 8 _ g8
        have y8 := hev 8 59 _ (by decide) (by decide) g8
        refine Mix.wpOp_value rfl rfl (v := .int .i64 130) (W' := W) ?_ (hk _ _ (hI.next (Below.refl _ _) rfl))
        simp [execOp, go_sem, y8]
    case tail =>
      intro B1 W1 hI hB
      obtain ⟨v0, g0⟩ := hB (0, some 52) (by decide)
      obtain ⟨v3, g3⟩ := hB (3, some 55) (by decide)
      obtain ⟨v4, g4⟩ := hB (4, some 56) (by decide)
      obtain ⟨v5, g5⟩ := hB (5, some 57) (by decide)
      obtain ⟨v6, g6⟩ := hB (6, some 51) (by decide)
      obtain ⟨v7, g7⟩ := hB (7, some 58) (by decide)
      obtain ⟨v8, g8⟩ := hB (8, some 59) (by decide)
      obtain ⟨v9, g9⟩ := hB (9, some 8) (by decide)
      obtain ⟨v10, g10⟩ := hB (10, none) (by decide)
      obtain ⟨v11, g11⟩ := hB (11, some 9) (by decide)
      dsimp only at g0 g3 g4 g5 g6 g7 g8 g9 g10 g11
      obtain rfl : v11 = .int .i64 130 := hI.f 11 _ g11
      clear hB
      have EW := Lib.hid (E10.out.next hI.below)
      have E11 := EW
      clear EW
      have hAA1 := HA1.out
      subst hAA1
      clear HA1 hszA1
      simp only [naS, Mix.putO, g0, g3, g4, g5, g6, g7, g8, g9, g10, g11]
      simp only [Act.put]
      clear g0 g3 g4 g5 g6 g7 g8 g9 g10 g11
      refine Mix.wpAny_tail [false, false, false, false, false, false, false, false, false, false, false, false] (Array.replicate 12 true) (by kernel_rfl) (by kernel_rfl) ?_
      simp only [Mix.maskL]
      clear HLg
      obtain ⟨-, -, -, -, -, bm_v, -, -, -, -⟩ := E11.out.now
      have bm_0 := bm_v.c 0 _ rfl; have bm_1 := bm_v.c 1 _ rfl; have bm_2 := bm_v.c 2 _ rfl; have bm_3 := bm_v.c 3 _ rfl; have bm_4 := bm_v.c 4 _ rfl; have bm_5 := bm_v.c 5 _ rfl; have bm_6 := bm_v.c 6 _ rfl; have bm_7 := bm_v.c 7 _ rfl; have bm_8 := bm_v.c 8 _ rfl; have bm_9 := bm_v.c 9 _ rfl; have bm_10 := bm_v.c 10 _ rfl; have bm_11 := bm_v.c 11 _ rfl; have bm_12 := bm_v.c 12 _ rfl; have bm_13 := bm_v.c 13 _ rfl; have bm_14 := bm_v.c 14 _ rfl; have bm_l := bm_v.lt
      clear bm_v
      go_wp2_with fail
      clear bm_0 bm_1 bm_2 bm_3 bm_4 bm_5 bm_6 bm_7 bm_8 bm_9 bm_10 bm_11 bm_12 bm_13 bm_14 bm_l
      refine (HRx.out hm _ E11.out.now.2.2.2.2.2.2.1).mono ?_
      rintro e w12 ⟨hx, rfl, ho, hb⟩
      have E12 := Lib.hid ((E11.out.next hb).and (St.own ho))
      clear hb
      clear ho HRx
      have HBX := (E12.out.now.2.2.2.2.2.2.1).next (allocM_below w12 c Sx hx)
      go_wp2_with (first | (refine wpList_store_newmap _ _ rfl rfl rfl rfl ?_) | (refine wpList_load_map _ rfl rfl rfl HBX rfl ?_))
      clear HBX
      rw [allocM_fold]
      have hz12 := allocM_size w12 c Sx hx
      have E13 := Lib.hid ((E12.out.next (allocM_below w12 c Sx hx)).and (St.bv (allocM_bv w12 c Sx hx)))
      generalize allocM w12 c Sx hx = wm13 at *
      clear hz12
      refine (HRy.out hm _ E13.out.now.2.2.2.2.2.2.2.2.1).mono ?_
      rintro e w14 ⟨hy, rfl, ho, hb⟩
      have E14 := Lib.hid (E13.out.next hb)
      clear hb
      clear ho HRy
      go_wp2_with (first | (refine wpList_store_newmap _ _ rfl rfl rfl rfl ?_))
      rw [allocM_fold]
      have hz14 := allocM_size w14 c Sx hy
      have E15 := Lib.hid ((E14.out.next (allocM_below w14 c Sx hy)).and (St.bv (allocM_bv w14 c Sx hy)))
      generalize allocM w14 c Sx hy = wm15 at *
      clear hz14
      clear E0 E1 E2 E3 E4 E5 E6 E7 E8 E9 E10 E11 E12 E13 E14 hI hf1 hf4 hf53 hf54
      rename_i Q1 K1 Q2 K2 a2 K3 a3
      revert c HAL Sm HMl HMo Sx HHx Sz HLz T12 S9 HC9 HMk Q1 wl1 w2 hm wm3 wl4 w5 h2 K1 wm6 wr u36 u37 u38 u39 u40 u41 u42 u43 u44 bn Q2 K2 a2 w8 h6 wm9 wx B1 W1 v0 v3 v4 v5 v6 v7 v8 v9 v10 w12 hx wm13 w14 hy K3 a3 wm15 E15
      exact hrest.out⟩
end Go.Proofs.Ytiemfklonhlnnaa.Load
