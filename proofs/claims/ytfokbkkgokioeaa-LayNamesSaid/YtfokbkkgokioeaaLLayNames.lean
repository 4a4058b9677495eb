/- Package lay's laws: the chapter's slots; has an array these keys; the chapter's examples. Operations of a region in whatever order, some without a place for their value. No program in sight. The law LayNames: its walk. -/
import Derived.Test.YtfokbkkgokioeaaMao
import Derived.Laws.MakeOwn
set_option linter.unusedSimpArgs false
set_option linter.unusedVariables false
namespace Go.Proofs.Ytfokbkkgokioeaa.Lay
open Go.RowKit Go.Shelf Go.Sort Go.Proofs.Ytfokbkkgokioeaa Go.Proofs.Ytfokbkkgokioeaa.Occ Go.Proofs.Ytfokbkkgokioeaa.Slo
attribute [local go_sem] sval Oper.semAt_some

theorem wfS {s : Sl} (h1 : (Lit.int .i64 s.seg).wf = true) (h2 : (s.ws.all fun z => decide (0 ≤ z ∧ z < 18446744073709551616)) = true) (h3 : decide (0 ≤ s.laid ∧ s.laid < 18446744073709551616) = true)
    (h4 : decide (s.ws.length ≤ 100000 ∧ s.ks.length ≤ 100000 ∧ s.vs.length ≤ 100000 ∧ s.cs.length ≤ 100000) = true) : s.Wf := wf_of h1 h2 h3 (by simpa using h4)
theorem rd_lit {k : IntKind} {w : World} {news : Array Value} {e : TypeId} {zs : List Int} (h : news.toList = zs.map (Value.int k)) : Rd k (w.alloc (.cells news e)) (some ⟨w.heap.size, 0, Option.none⟩) zs := by
  refine .inr ⟨_, _, rfl, by simp, fun i hi => ?_⟩
  have := new_cells w e news i (.int k (zs.getD i 0)) (by rw [h]; simp [List.getD_eq_getElem?_getD, hi])
  rwa [Addr.add_lit] at this
theorem below_lit (w : World) (o : Obj) : Below w.heap.size w (w.alloc o) := (Below.refl _ w).alloc (Nat.le_refl _) _
def chV : Sl := layV (layV (emptyV 4 4) 0 5 0) 1 6 0
theorem chapter_plain : ∃ A B C : Sl, newSV 4 4 = (A, 0) ∧ A.Wf ∧ laySV A 0 5 0 = (B, 0) ∧ B.Wf ∧ laySV B 1 6 0 = (C, 0) ∧ C = chV :=
  ⟨emptyV 4 4, layV (emptyV 4 4) 0 5 0, chV, by decide +kernel, wfS (by decide +kernel) (by decide +kernel) (by decide +kernel) (by decide +kernel), by decide +kernel, wfS (by decide +kernel) (by decide +kernel) (by decide +kernel) (by decide +kernel), by decide +kernel, rfl⟩
theorem chV_wf : chV.Wf := wfS (by decide +kernel) (by decide +kernel) (by decide +kernel) (by decide +kernel)
theorem alive_lay : ∃ E F : Sl, evenSV chV 0 4 = (E, 0) ∧ E.ks = [5, 0, 6, 0] ∧ E.laid = 4 ∧ withSV chV 0 4 0 9 0 = (F, 0) ∧ F.ks = [9, 5, 6, 0] ∧ F.laid = 5 :=
  ⟨(evenSV chV 0 4).1, (withSV chV 0 4 0 9 0).1, by decide +kernel, by decide +kernel, by decide +kernel, by decide +kernel, by decide +kernel, by decide +kernel⟩

set_option maxRecDepth 100000 in
set_option maxHeartbeats 4000000 in
theorem chapter_any (w : World) : Calls Try.prog 22 #[] w fun e w' => ∃ h', e = .returned (sval chV h') ∧ SOwn w' w.heap.size w'.heap.size chV h' ∧ Below w.heap.size w w' := by
  obtain ⟨A, B, C, e1, wA, e2, wB, e3, e4⟩ := chapter_plain
  have HN := Lib.hid (fun w1 => New_any 4 4 w1 (by decide) (by decide))
  rw [e1] at HN
  have HL1 := Lib.hid (fun h1 w1 R => Lay_any A h1 0 5 0 w1 wA R)
  rw [e2] at HL1
  have HL2 := Lib.hid (fun h1 w1 R => Lay_any B h1 1 6 0 w1 wB R)
  rw [e3] at HL2
  have HC := Lib.hid e4
  rw [← e4]
  clear e1 e2 e3 e4 wA wB
  go_enter Try.func22, Try.ntmps22
  have E0 := Lib.hid (((St.below' (allocS_below w noneS noneH))).and (St.bs (allocS_bs w noneS noneH)))
  go_wp2_with fail
  rw [show w.alloc (.cells #[.int .i64 0, .slice Option.none 0 0, .slice Option.none 0 0, .slice Option.none 0 0, .slice Option.none 0 0, .int .u64 0] 27) = allocS w noneS noneH from rfl]
  generalize hw0 : allocS w noneS noneH = w0 at *
  have hz0 : w0.heap.size = w.heap.size + 1 := by rw [← hw0, allocS_size]
  clear hw0
  refine (HN.out _).mono ?_
  rintro e w1 ⟨ha, rfl, ho, hb⟩
  have E1 := Lib.hid ((E0.out.next hb).and (St.own ho))
  clear hb
  clear ho
  go_wp2_with fail
  rw [allocS_fold]
  have E2 := Lib.hid ((E1.out.next (allocS_below w1 A ha)).and (St.bs (allocS_bs w1 A ha)))
  generalize allocS w1 A ha = w2 at *
  refine (HL1.out ha _ (SOwn.rd E2.out.now.2.1)).mono ?_
  rintro e w3 ⟨hb1, rfl, ho, hb⟩
  have E3 := Lib.hid ((E2.out.next hb).and (St.own ho))
  clear hb
  clear ho
  obtain ⟨-, ⟨⟨bs_0, bs_1, bs_2, bs_3, bs_4, bs_5, -⟩, bs_l⟩, -, -, -⟩ := E3.out.now
  have fb := E3.out.now.2.1.box.f
  have f0 := fb 0; have f1 := fb 1; have f2 := fb 2; have f3 := fb 3; have f4 := fb 4; have f5 := fb 5
  clear fb
  go_wp2_with fail
  rw [stS_fold]
  clear bs_0 bs_1 bs_2 bs_3 bs_4 bs_5 bs_l
  clear f0 f1 f2 f3 f4 f5
  have hz1 : w.heap.size < w1.heap.size := E1.out.now.2.1.lt
  have hz2 : w1.heap.size < w2.heap.size := E2.out.now.1.lt
  have hst : Below w1.heap.size w3 (stS w3 w1.heap.size B hb1) := stS_below (Below.refl _ _) (Nat.le_refl _)
  have hkk : Keeps w1.heap.size w3.heap.size w3.heap.size w3 _ := ⟨hst, fun i h1 h2 => by omega⟩
  have E4 := Lib.hid (((((St.below' (stS_below (p := w1.heap.size) (s := B) (h := hb1) E3.out.now.2.2.2.2 (Nat.le_of_lt hz1)))).and (St.own (stS_own (s := B) (h := hb1) E3.out.now.1 hz2))).and (St.bs (stS_bs (s := B) (h := hb1) E3.out.now.2.1))).and (St.bs (keeps_bs hkk E3.out.now.2.2.2.1 (.inl hz1))))
  clear hst hkk
  generalize stS w3 w1.heap.size B hb1 = w4 at *
  clear hz1 hz2
  refine (HL2.out hb1 _ (SOwn.rd E4.out.now.2.2.1)).mono ?_
  rintro e w5 ⟨hc1, rfl, ho, hb⟩
  have E5 := Lib.hid ((E4.out.next hb).and (St.own ho))
  clear hb
  clear ho
  obtain ⟨-, -, ⟨⟨bs_0, bs_1, bs_2, bs_3, bs_4, bs_5, -⟩, bs_l⟩, -, -⟩ := E5.out.now
  have fb := E5.out.now.2.2.1.box.f
  have f0 := fb 0; have f1 := fb 1; have f2 := fb 2; have f3 := fb 3; have f4 := fb 4; have f5 := fb 5
  clear fb
  have hz1 : w.heap.size < w1.heap.size := E1.out.now.2.1.lt
  have hz2 : w1.heap.size < w4.heap.size := E4.out.now.2.1.lt
  have hne : w1.heap.size ≠ w.heap.size := by omega
  have d0 := E5.out.now.2.1.box.c0; have d1 := E5.out.now.2.1.box.c1; have d2 := E5.out.now.2.1.box.c2; have d3 := E5.out.now.2.1.box.c3; have d4 := E5.out.now.2.1.box.c4; have d5 := E5.out.now.2.1.box.c5
  have g := E5.out.now.2.1.box.f
  have g0 := g 0; have g1 := g 1; have g2 := g 2; have g3 := g 3; have g4 := g 4; have g5 := g 5
  clear g
  go_wp2
  rw [stS_fold, stS_fold]
  have hst : Below w1.heap.size w5 (stS w5 w1.heap.size C hc1) := stS_below (Below.refl _ _) (Nat.le_refl _)
  have hkk : Keeps w1.heap.size w5.heap.size w5.heap.size w5 _ := ⟨hst, fun i h1 h2 => by omega⟩
  have D4 := stS_box (s := C) (h := hc1) (keeps_bs hkk E5.out.now.2.1 (.inl hz1)).box
  have q0 := D4.c0; have q1 := D4.c1; have q2 := D4.c2; have q3 := D4.c3; have q4 := D4.c4; have q5 := D4.c5
  refine bodyPost_ret (v := sval C hc1) (by simp [results, Try.results22, sval, go_sem, q0, q1, q2, q3, q4, q5]) rfl ⟨hc1, rfl, ?_, ?_⟩
  · exact (stS_own (stS_own E5.out.now.1 hz2) (by omega)).mono (by omega) (by rw [stS_size, stS_size]; exact Nat.le_refl _)
  · exact stS_below (stS_below E5.out.now.2.2.2.2 (Nat.le_of_lt hz1)) (Nat.le_refl _)

set_option maxRecDepth 100000 in
set_option maxHeartbeats 4000000 in
theorem keys_any (s : Sl) (h : Hd) (a : Option Addr) (c : Nat) (xs : List Int) (w : World) (R : SRd w s h) (hx : Rd .i64 w a xs) (l1 : s.ks.length ≤ 1000000) (l2 : xs.length ≤ 1000000) :
    Calls Try.prog 23 #[sval s h, .slice a xs.length c] w fun e w' => e = .returned (.bool (decide (s.ks = xs))) ∧ Below w.heap.size w w' := by
  have HK := Lib.hid (fun w1 (hb : Below w.heap.size w w1) => sameKeys_any h.ak a h.ck c s.ks xs w1 (R.mono hb (Nat.le_refl _)).fk (hx.mono hb (Nat.le_refl _)) (by omega) (by omega))
  have HB := Lib.hid (allocS_below w s h)
  have HX := Lib.hid (allocS_bs w s h)
  clear R hx l1 l2
  unfold sval at *
  go_enter Try.func23, Try.ntmps23
  go_wp2_with fail
  rw [allocS_fold]
  refine (HK.out _ HB.out).mono ?_
  rintro e w1 ⟨rfl, hb⟩
  go_wp2
  go_ret
  exact ⟨rfl, HB.out.trans (hb.mono HB.out.size)⟩

set_option maxRecDepth 100000 in
set_option maxHeartbeats 8000000 in
theorem alive_any (w : World) : Calls Try.prog 20 #[] w fun e w' => e = .returned (.bool true) ∧ Below w.heap.size w w' := by
  obtain ⟨E, F, e1, e2, e3, e4, e5, e6⟩ := alive_lay
  have HE := Lib.hid (fun h1 w1 R => Even_any chV h1 0 4 w1 chV_wf R)
  rw [e1] at HE
  have HF := Lib.hid (fun h1 w1 R => lWith_any chV h1 0 4 0 9 0 w1 chV_wf R)
  rw [e4] at HF
  have HCH := Lib.hid (fun w1 => chapter_any w1)
  have HK1 : Hid (∀ h1 a c w1, SRd w1 E h1 → Rd .i64 w1 a [5, 0, 6, 0] → Calls Try.prog 23 #[sval E h1, .slice a 4 c] w1 fun e w' => e = .returned (.bool true) ∧ Below w1.heap.size w1 w') := Lib.hid (fun h1 a c w1 R hx => by
    have := keys_any E h1 a c [5, 0, 6, 0] w1 R hx (by rw [e2]; decide) (by decide)
    rwa [show decide (E.ks = [5, 0, 6, 0]) = true by rw [e2]; decide] at this)
  have HK2 : Hid (∀ h1 a c w1, SRd w1 F h1 → Rd .i64 w1 a [9, 5, 6, 0] → Calls Try.prog 23 #[sval F h1, .slice a 4 c] w1 fun e w' => e = .returned (.bool true) ∧ Below w1.heap.size w1 w') := Lib.hid (fun h1 a c w1 R hx => by
    have := keys_any F h1 a c [9, 5, 6, 0] w1 R hx (by rw [e5]; decide) (by decide)
    rwa [show decide (F.ks = [9, 5, 6, 0]) = true by rw [e5]; decide] at this)
  generalize chV = C at *
  have H3 := Lib.hid e3
  have H6 := Lib.hid e6
  clear e1 e2 e3 e4 e5 e6
  go_enter Try.func20, Try.ntmps20
  have E0 := Lib.hid ((St.below w))
  go_wp2_with fail
  refine (HCH.out _).mono ?_
  rintro e w1 ⟨hc, rfl, ho, hb⟩
  have E1 := Lib.hid ((E0.out.next hb).and (St.own ho))
  clear hb
  clear ho
  go_wp2_with fail
  refine (HE.out hc _ (SOwn.rd E1.out.now.1)).mono ?_
  rintro e w2 ⟨he, rfl, ho, hb⟩
  have E2 := Lib.hid ((E1.out.next hb).and (St.own ho))
  clear hb
  clear ho
  go_wp2_with fail
  rw [allocS_fold]
  have E3 := Lib.hid ((E2.out.next (allocS_below w2 E he)).and (St.bs (allocS_bs w2 E he)))
  generalize allocS w2 E he = w3 at *
  refine (HCH.out _).mono ?_
  rintro e w4 ⟨hd, rfl, ho, hb⟩
  have E4 := Lib.hid ((E3.out.next hb).and (St.own ho))
  clear hb
  clear ho
  go_wp2_with fail
  refine (HF.out hd _ (SOwn.rd E4.out.now.1)).mono ?_
  rintro e w5 ⟨hf, rfl, ho, hb⟩
  have E5 := Lib.hid ((E4.out.next hb).and (St.own ho))
  clear hb
  clear ho
  obtain ⟨-, -, ⟨⟨be_0, be_1, be_2, be_3, be_4, be_5, -⟩, be_l⟩, -, -, -⟩ := E5.out.now
  go_wp2_with fail
  clear be_0 be_1 be_2 be_3 be_4 be_5 be_l
  have hzF := allocS_size w5 F hf
  rw [allocS_fold]
  have E6 := Lib.hid ((E5.out.next (allocS_below w5 F hf)).and (St.bs (allocS_bs w5 F hf)))
  generalize allocS w5 F hf = w6 at *
  have E7 := Lib.hid ((E6.out.next (below_lit w6 (.cells #[.int .i64 5, .int .i64 0, .int .i64 6, .int .i64 0] 2))).and (St.rdk (by have hl := rd_lit (k := .i64) (w := w6) (news := #[.int .i64 5, .int .i64 0, .int .i64 6, .int .i64 0]) (e := 2) (zs := [5, 0, 6, 0]) rfl; rw [hzF] at hl; exact hl)))
  generalize w6.alloc (.cells #[.int .i64 5, .int .i64 0, .int .i64 6, .int .i64 0] 2) = w7 at *
  refine (HK1.out he _ _ _ (SOwn.rd E7.out.now.2.2.2.2.2.1) E7.out.now.1).mono ?_
  rintro e w8 ⟨rfl, hb⟩
  have E8 := Lib.hid (E7.out.next hb)
  clear hb
  obtain ⟨xg, xw, xk, xv, xc, xl⟩ := E
  dsimp only at H3
  obtain rfl := H3.out
  obtain ⟨-, ⟨⟨bf_0, bf_1, bf_2, bf_3, bf_4, bf_5, -⟩, bf_l⟩, -, -, ⟨⟨be_0, be_1, be_2, be_3, be_4, be_5, -⟩, be_l⟩, -, -, -⟩ := E8.out.now
  dsimp only at be_0 be_1 be_2 be_3 be_4 be_5
  go_wp2_with fail
  clear be_0 be_1 be_2 be_3 be_4 be_5 be_l bf_0 bf_1 bf_2 bf_3 bf_4 bf_5 bf_l
  have E9 := Lib.hid ((E8.out.next (below_lit w8 (.cells #[.int .i64 9, .int .i64 5, .int .i64 6, .int .i64 0] 2))).and (St.rdk (rd_lit (k := .i64) (w := w8) (news := #[.int .i64 9, .int .i64 5, .int .i64 6, .int .i64 0]) (e := 2) (zs := [9, 5, 6, 0]) rfl)))
  generalize w8.alloc (.cells #[.int .i64 9, .int .i64 5, .int .i64 6, .int .i64 0] 2) = w9 at *
  refine (HK2.out hf _ _ _ (SOwn.rd E9.out.now.2.2.2.1) E9.out.now.1).mono ?_
  rintro e w10 ⟨rfl, hb⟩
  have E10 := Lib.hid (E9.out.next hb)
  clear hb
  obtain ⟨yg, yw, yk, yv, yc, yl⟩ := F
  dsimp only at H6
  obtain rfl := H6.out
  obtain ⟨-, -, ⟨⟨bf_0, bf_1, bf_2, bf_3, bf_4, bf_5, -⟩, bf_l⟩, -, -, -, -, -, -⟩ := E10.out.now
  dsimp only at bf_0 bf_1 bf_2 bf_3 bf_4 bf_5
  go_wp2_with fail
  go_ret
  exact ⟨by simp, E10.out.now.2.2.2.2.2.2.2.2⟩
end Go.Proofs.Ytfokbkkgokioeaa.Lay

namespace Go.Proofs.Ytfokbkkgokioeaa.Mix
open Go Go.RowKit

/-- Values put into their places, as far as they are there. -/
def putO (a : Act) : List (Nat × Option Tmp) → (Nat → Option Value) → Act
  | [], _ => a
  | (i, d) :: r, B => match B i with
    | none => putO a r B
    | some v => (putO a r B).put d v
theorem putO_congr (a : Act) : ∀ (ds : List (Nat × Option Tmp)) (B B' : Nat → Option Value), (∀ p ∈ ds, B p.1 = B' p.1) → putO a ds B = putO a ds B'
  | [], _, _, _ => rfl
  | (i, d) :: r, B, B', h => by
    have h1 : B i = B' i := h (i, d) List.mem_cons_self
    have h2 := putO_congr a r B B' fun p hp => h p (List.mem_cons_of_mem _ hp)
    unfold putO
    rw [h1, h2]
theorem putO_none (a : Act) : ∀ ds : List (Nat × Option Tmp), putO a ds (fun _ => none) = a
  | [] => rfl
  | (i, d) :: r => by unfold putO; exact putO_none a r
theorem putO_upd (a : Act) : ∀ (ds : List (Nat × Option Tmp)) (B : Nat → Option Value) (i : Nat) (d : Option Tmp) (v : Value), (ds.map (·.1)).Nodup → (ds.filterMap (·.2)).Nodup → (i, d) ∈ ds → B i = none → (putO a ds B).put d v = putO a ds (updV B i v)
  | [], _, _, _, _, _, _, h, _ => by cases h
  | (j, e) :: r, B, i, d, v, h1, h2, h, hn => by
    simp only [List.map_cons, List.nodup_cons] at h1
    rcases List.mem_cons.1 h with h3 | h3
    · obtain ⟨rfl, rfl⟩ := Prod.mk.inj h3
      have e1 : putO a r (updV B i v) = putO a r B := putO_congr a r _ _ fun p hp => by
        unfold updV
        rw [if_neg]
        intro h4
        exact h1.1 (List.mem_map.2 ⟨p, hp, h4⟩)
      have e2 : updV B i v i = some v := by unfold updV; rw [if_pos rfl]
      unfold putO
      rw [e1, e2, hn]
    · have hj : j ≠ i := fun e => h1.1 (by rw [e]; exact List.mem_map.2 ⟨(i, d), h3, rfl⟩)
      have h2' : (r.filterMap (·.2)).Nodup := by
        cases e with
        | none => simpa [List.filterMap_cons] using h2
        | some t => simp only [List.filterMap_cons, List.nodup_cons] at h2; exact h2.2
      have he : ∀ t, e = some t → d ≠ some t := fun t ht hd => by
        subst ht hd
        simp only [List.filterMap_cons, List.nodup_cons] at h2
        exact h2.1 (List.mem_filterMap.2 ⟨(i, some t), h3, rfl⟩)
      have e1 := putO_upd a r B i d v h1.2 h2' h3 hn
      have e2 : updV B i v j = B j := by unfold updV; rw [if_neg hj]
      unfold putO
      rw [e2, ← e1]
      cases B j with
      | none => rfl
      | some u => exact Act.put_comm _ u v he
theorem putO_size (a : Act) : ∀ (ds : List (Nat × Option Tmp)) (B : Nat → Option Value), (putO a ds B).tmps.size = a.tmps.size
  | [], _ => rfl
  | (j, e) :: r, B => by
    have := putO_size a r B
    unfold putO
    cases B j with
    | none => exact this
    | some u => cases e <;> simp [Act.put, this]
theorem putO_eval (a : Act) : ∀ (ds : List (Nat × Option Tmp)) (B : Nat → Option Value) (i : Nat) (d : Tmp) (v : Value), (ds.map (·.1)).Nodup → (ds.filterMap (·.2)).Nodup → (i, some d) ∈ ds → d < a.tmps.size → B i = some v → (putO a ds B).eval (.tmp d) = v
  | [], _, _, _, _, _, _, h, _, _ => by cases h
  | (j, e) :: r, B, i, d, v, h1, h2, h, hd, hv => by
    simp only [List.map_cons, List.nodup_cons] at h1
    rcases List.mem_cons.1 h with h3 | h3
    · obtain ⟨rfl, rfl⟩ := Prod.mk.inj h3
      have := putO_size a r B
      unfold putO
      rw [hv]
      simp [Act.put, Act.eval, this, hd]
    · have h2' : (r.filterMap (·.2)).Nodup := by
        cases e with
        | none => simpa [List.filterMap_cons] using h2
        | some t => simp only [List.filterMap_cons, List.nodup_cons] at h2; exact h2.2
      have he : ∀ t, e = some t → t ≠ d := fun t ht hd => by
        subst ht hd
        simp only [List.filterMap_cons, List.nodup_cons] at h2
        exact h2.1 (List.mem_filterMap.2 ⟨(i, some t), h3, rfl⟩)
      have e1 := putO_eval a r B i d v h1.2 h2' h3 hd hv
      unfold putO
      cases B j with
      | none => exact e1
      | some u => exact (Act.eval_put fun d' hd' hx => by cases hx; exact he _ hd' rfl).trans e1
theorem putO_ne (a : Act) : ∀ (ds : List (Nat × Option Tmp)) (B : Nat → Option Value) (d : Tmp), (∀ q ∈ ds, q.2 ≠ some d) → (putO a ds B).eval (.tmp d) = a.eval (.tmp d)
  | [], _, _, _ => rfl
  | (j, e) :: r, B, d, h => by
    have e1 := putO_ne a r B d fun q hq => h q (List.mem_cons_of_mem _ hq)
    have he := h (j, e) List.mem_cons_self
    unfold putO
    cases B j with
    | none => exact e1
    | some u => exact (Act.eval_put fun d' hd' hx => by cases hx; exact he hd').trans e1
/-- Operations that hang on one another, in whatever order they come up, under an invariant of what has been yielded. -/
theorem wpAny_dagO {P : Program} {md : Region.Mode} {ops : Array Oper} {Q : Exit → Act → World → Prop} {w : World} {a : Act} {listed : Array Bool} (le : Array Bool) (fuel : Nat) (ds : List (Nat × Option Tmp)) (deps : Nat → List Nat) (I : (Nat → Option Value) → World → Prop)
    (hd1 : (ds.map (·.1)).Nodup) (hd2 : (ds.filterMap (·.2)).Nodup)
    (h0 : I (fun _ => none) w)
    (hop : ∀ p ∈ ds, ∀ B W (K : Act → World → Prop), I B W → B p.1 = none → (∀ q ∈ ds, q.1 ∈ deps p.1 → ∃ v, B q.1 = some v) →
      (∀ v W', I (updV B p.1 v) W' → K ((putO a ds B).put p.2 v) W') → wpOp P ops Q p.1 K (putO a ds B) W)
    (hB : mkD md ops le deps ds.length (ds.map (·.1)) listed = true)
    (tail : ∀ B W, I B W → (∀ p ∈ ds, ∃ v, B p.1 = some v) → wpAny P md ops Q fuel le (putO a ds B) W) :
    wpAny P md ops Q (fuel + ds.length) listed a w := by
  have key := wpAny_dagI (P := P) (md := md) (ops := ops) (Q := Q)
    (fun todo a' W => ∃ B, a' = putO a ds B ∧ I B W ∧ todo.Nodup ∧ (∀ i ∈ todo, i ∈ ds.map (·.1)) ∧ ∀ p ∈ ds, p.1 ∈ todo ↔ B p.1 = none) le fuel deps ?step ?tail ds.length (ds.map (·.1)) listed a w hB (by simp) ?init
  case init => exact ⟨fun _ => none, (putO_none a ds).symm, h0, hd1, fun i hi => hi, fun p hp => ⟨fun _ => rfl, fun _ => List.mem_map.2 ⟨p, hp, rfl⟩⟩⟩
  case tail =>
    rintro a' W ⟨B, rfl, hI, -, -, hn⟩
    refine tail B W hI fun p hp => ?_
    exact Option.ne_none_iff_exists'.1 fun e => by have := (hn p hp).2 e; cases this
  case step =>
    rintro todo i a' W hi hde ⟨B, rfl, hI, hnd, ht, hn⟩
    obtain ⟨⟨i', d⟩, hp, rfl⟩ := List.mem_map.1 (ht i hi)
    have hBn := (hn _ hp).1 hi
    refine hop _ hp B W _ hI hBn (fun q hq hqd => Option.ne_none_iff_exists'.1 fun e => hde _ hqd ((hn q hq).2 e)) fun v W' hI' => ?_
    refine ⟨updV B i' v, putO_upd a ds B i' d v hd1 hd2 hp hBn, hI', hnd.erase _, fun j hj => ht j (List.mem_of_mem_erase hj), fun q hq => ?_⟩
    unfold updV
    by_cases h : q.1 = i'
    · rw [if_pos h, h]
      exact ⟨fun hm => absurd hm hnd.not_mem_erase, fun hm => by cases hm⟩
    · rw [if_neg h]
      exact ⟨fun hm => (hn q hq).1 (List.mem_of_mem_erase hm), fun e => (List.mem_erase_of_ne h).2 ((hn q hq).2 e)⟩
  exact key
/-- An operation that yields nothing. -/
theorem wpOp_skip {P : Program} {ops : Array Oper} {Q : Exit → Act → World → Prop} {i : Nat} {o : Oper} {K : Act → World → Prop} {A : Act} {W W' : World} (h0 : ops[i]? = some o) (hw : Region.wanted o (yielded ops A.tmps) = true)
    (hr : (execOp A.eval o).run P W = .ok .skip W') (h : K (A.put o.dst undef) W') : wpOp P ops Q i K A W := by
  unfold wpOp
  simp only [h0]
  rw [if_pos hw]
  left
  unfold Oper.wp
  rw [hr]
  exact h
theorem updV_some {B : Nat → Option Value} {i j : Nat} {v u : Value} (h : updV B i v j = some u) : (j = i ∧ u = v) ∨ (j ≠ i ∧ B j = some u) := by
  unfold updV at h
  split at h
  · exact .inl ⟨by assumption, (Option.some.inj h).symm⟩
  · exact .inr ⟨by assumption, h⟩
theorem updV_none {B : Nat → Option Value} {i j : Nat} {v : Value} (h : updV B i v j = none) : j ≠ i ∧ B j = none := by
  unfold updV at h
  split at h
  · cases h
  · exact ⟨by assumption, h⟩
theorem any_gen {P : Program} {md : Region.Mode} {ops : Array Oper} {Q : Exit → Act → World → Prop} {fuel : Nat} {listed : Array Bool} {a : Act} {w W : World} (hb : Below w.heap.size w W) (h : ∀ wx, Below w.heap.size w wx → wpAny P md ops Q fuel listed a wx) : wpAny P md ops Q fuel listed a W := h W hb
/-- A guarded operation, where the guard has yielded what it waits for. -/
theorem wanted_at {ops : Array Oper} {o : Oper} {A : Act} {j d : Nat} {want : Bool} (hg : o.guard = some (j, want)) (hj : (ops[j]?).bind (·.dst) = some d) (hd : d < A.tmps.size) (hv : A.eval (.tmp d) = .bool want) : Region.wanted o (yielded ops A.tmps) = true := by
  have e : A.tmps[d]? = some (.bool want) := by
    simp [Act.eval, hd] at hv
    simp [hd, hv]
  unfold Region.wanted yielded
  rw [hg]
  dsimp only
  rw [hj]
  simp [e]
end Go.Proofs.Ytfokbkkgokioeaa.Mix

namespace Go.Proofs.Ytfokbkkgokioeaa.Lay
open Go.RowKit Go.Shelf Go.Sort Go.Proofs.Ytfokbkkgokioeaa Go.Proofs.Ytfokbkkgokioeaa.Occ Go.Proofs.Ytfokbkkgokioeaa.Slo
attribute [local go_sem] sval Oper.semAt_some

theorem names_plain : ∃ N A B : Sl, withSV chV 0 2 0 0 0 = (N, 9) ∧ withSV chV 0 4 3 0 0 = (N, 2) ∧ withSV chV 0 4 (-1) 0 0 = (N, 2) ∧ withSV chV 1 4 1 7 0 = (A, 0) ∧ A.ks = [5, 6, 7, 0] ∧ evenSV chV 0 5 = (N, 2) ∧ evenSV noneS 0 0 = (N, 8) ∧ intoSV chV 8 [(1, 0), (2, 0)] = (B, 0) ∧ B.ks = [1, 0, 0, 0, 2, 0, 0, 0] ∧ B.laid = 4 ∧ intoSV chV 12 [] = (N, 2) ∧ intoSV chV 4 [(0, 0), (0, 0), (0, 0), (0, 0), (0, 0)] = (N, 2) :=
  ⟨noneS, (withSV chV 1 4 1 7 0).1, (intoSV chV 8 [(1, 0), (2, 0)]).1, by decide +kernel, by decide +kernel, by decide +kernel, by decide +kernel, by decide +kernel, by decide +kernel, by decide +kernel, by decide +kernel, by decide +kernel, by decide +kernel, by decide +kernel, by decide +kernel⟩
theorem noneS_rd (w : World) : SRd w noneS noneH := ⟨.inl rfl, .inl rfl, .inl rfl, .inl rfl⟩
theorem noneS_wf : noneS.Wf := wfS (by decide +kernel) (by decide +kernel) (by decide +kernel) (by decide +kernel)
theorem rd2_lits {w : World} {news : Array Value} {zs : List (Int × Int)} (h : news.toList = pcells zs) (hs : news.size = zs.length * 2) (hm : zs.length ≤ maxLen) : Rd2 (w.alloc (.cells news 42)) (some ⟨w.heap.size, 0, Option.none⟩) zs := by
  have h2 := World.ownsRow_lit (base := w.heap.size) (e := 42) (size := 2) w news zs.length (Nat.le_refl _) hm hs
  rw [h] at h2
  obtain ⟨a', c', e, -, hr, -⟩ := owns2_arg h2
  cases e; exact hr
theorem make5_run (W : World) : (Instr.makeSlice 28 (.int .i64 5) (.int .i64 5)).run Try.prog W = .ok (.slice (some ⟨W.heap.size, 0, Option.none⟩) 5 5) (W.alloc (.cells (madeCells (Value.agg #[.int .i64 0, .int .i64 0]).cells 10) 42)) := by
  obtain ⟨i0, hi, hz0, hz1, hz2⟩ := info_parts infoPr
  have h := run_makeSlice (P := Try.prog) W 28 42 i0 (.agg #[.int .i64 0, .int .i64 0]) Try.underlying28 hi hz0 .i64 .i64 5 5 (by decide) (by decide) (by rw [hz1]; decide) (by rw [hz2]; decide) (by decide)
  rw [hz1] at h
  exact h
theorem rd2_make5 (W : World) : Rd2 (W.alloc (.cells (madeCells (Value.agg #[.int .i64 0, .int .i64 0]).cells 10) 42)) (some ⟨W.heap.size, 0, Option.none⟩) [(0, 0), (0, 0), (0, 0), (0, 0), (0, 0)] :=
  rd2_lits (by kernel_rfl) (by rw [size_madeCells]; rfl) (by decide)
/-- What the operations of a drawn region have yielded. -/
def lnF (w : World) (N : Sl) (B : Nat → Option Value) : Nat → Value → World → Prop
  | 0, v, W => B 2 = none → ∃ h, v = sval chV h ∧ SRd W chV h
  | 1, v, W => B 2 = none → ∃ a c, v = .slice a 5 c ∧ Rd2 W a [(0, 0), (0, 0), (0, 0), (0, 0), (0, 0)]
  | 2, v, W => ∃ h, v = .tuple #[sval N h, .int .i64 2]
  | 3, v, W => ∃ h, v = .tuple #[sval N h, .int .i64 2]
  | 4, v, W => ∃ h, v = sval N h
  | 5, v, W => v = .int .i64 2
  | 6, v, W => ∃ b, v = .pointer (some ⟨b, 0, Option.none⟩) ∧ w.heap.size ≤ b ∧ (B 7 = none → BS W b noneS noneH)
  | 7, _, _ => True
  | 8, v, W => v = .int .i64 2
  | _, _, _ => True
theorem lnF_mono {w : World} {N : Sl} {B : Nat → Option Value} {k : Nat} {u : Value} : ∀ {i v W W'}, lnF w N B i v W → Below W.heap.size W W' → lnF w N (Mix.updV B k u) i v W'
  | 0, v, W, W', h, hb => fun e => (fun h => (fun ⟨a, h, r⟩ => ⟨a, h, r.next hb⟩) h) (h (Mix.updV_none e).2)
  | 1, v, W, W', h, hb => fun e => (fun h => (fun ⟨a, c, h, r⟩ => ⟨a, c, h, r.mono hb (Nat.le_refl _)⟩) h) (h (Mix.updV_none e).2)
  | 2, v, W, W', h, hb => h
  | 3, v, W, W', h, hb => h
  | 4, v, W, W', h, hb => h
  | 5, v, W, W', h, hb => h
  | 6, v, W, W', h, hb => (fun ⟨b, h, hl, bx⟩ => ⟨b, h, hl, fun e => (bx (Mix.updV_none e).2).next hb⟩) h
  | 7, v, W, W', h, _ => trivial
  | 8, v, W, W', h, hb => h
  | _ + 9, _, _, _, _, _ => trivial
theorem lnF_store {w : World} {N : Sl} {B : Nat → Option Value} {u : Value} (h2 : B 2 ≠ none) : ∀ {i v W W'}, lnF w N B i v W → lnF w N (Mix.updV B 7 u) i v W'
  | 0, v, W, W', h => fun e => absurd (Mix.updV_none e).2 h2
  | 1, v, W, W', h => fun e => absurd (Mix.updV_none e).2 h2
  | 2, v, W, W', h => h
  | 3, v, W, W', h => h
  | 4, v, W, W', h => h
  | 5, v, W, W', h => h
  | 6, v, W, W', h => (fun ⟨b, h, hl, _⟩ => ⟨b, h, hl, fun e => absurd rfl (Mix.updV_none e).1⟩) h
  | 7, v, W, W', h => trivial
  | 8, v, W, W', h => h
  | _ + 9, _, _, _, _ => trivial
structure lnI (w : World) (N : Sl) (B : Nat → Option Value) (W : World) : Prop where
  below : Below w.heap.size w W
  f : ∀ i v, B i = some v → lnF w N B i v W
theorem lnI.next {w W W' : World} {N : Sl} {B : Nat → Option Value} {k : Nat} {u : Value} (h : lnI w N B W) (hb : Below W.heap.size W W') (hu' : lnF w N (Mix.updV B k u) k u W') : lnI w N (Mix.updV B k u) W' :=
  ⟨h.below.trans (hb.mono h.below.size), fun i v hv => by
    rcases Mix.updV_some hv with ⟨rfl, rfl⟩ | ⟨-, hv'⟩
    · exact hu'
    · exact lnF_mono (h.f i v hv') hb⟩
theorem lnI.store {w W W' : World} {N : Sl} {B : Nat → Option Value} {u : Value} (h : lnI w N B W) (hb : Below w.heap.size w W') (h2 : B 2 ≠ none) : lnI w N (Mix.updV B 7 u) W' :=
  ⟨hb, fun i v hv => by
    rcases Mix.updV_some hv with ⟨rfl, rfl⟩ | ⟨-, hv'⟩
    · trivial
    · exact lnF_store h2 (h.f i v hv')⟩
def lnD : Nat → List Nat
  | 2 => [0, 1]
  | 3 => [2]
  | 4 => [3]
  | 5 => [3]
  | 7 => [2, 4, 6]
  | 8 => [5]
  | _ => []
def lnS : List (Nat × Option Tmp) := [(0, some 67), (1, some 68), (2, some 69), (3, some 66), (4, some 70), (5, some 71), (6, some 17), (7, none), (8, some 18)]

set_option maxRecDepth 100000 in
set_option maxHeartbeats 16000000 in
theorem layNames (w : World) : Calls Try.prog 6 #[] w fun e w' => e = .returned (.bool true) ∧ Below w.heap.size w w' := by
  obtain ⟨N, A, B, e1, e2, e3, e4, e5, e6, e7, e8, e9, e10, e11, e12⟩ := names_plain
  have HCH := Lib.hid (fun w1 => chapter_any w1)
  have HAL := Lib.hid alive_any
  have HW1 := Lib.hid (fun h1 w1 R => lWith_any chV h1 0 2 0 0 0 w1 chV_wf R)
  rw [e1] at HW1
  have HW2 := Lib.hid (fun h1 w1 R => lWith_any chV h1 0 4 3 0 0 w1 chV_wf R)
  rw [e2] at HW2
  have HW3 := Lib.hid (fun h1 w1 R => lWith_any chV h1 0 4 (-1) 0 0 w1 chV_wf R)
  rw [e3] at HW3
  have HW4 := Lib.hid (fun h1 w1 R => lWith_any chV h1 1 4 1 7 0 w1 chV_wf R)
  rw [e4] at HW4
  have HE1 := Lib.hid (fun h1 w1 R => Even_any chV h1 0 5 w1 chV_wf R)
  rw [e6] at HE1
  have HE2 := Lib.hid (fun w1 => Even_any noneS noneH 0 0 w1 noneS_wf (noneS_rd w1))
  rw [e7] at HE2
  have HI1 := Lib.hid (fun h1 al cl w1 R RL => Into_any chV h1 8 al cl [(1, 0), (2, 0)] w1 chV_wf R (by decide) RL (by decide))
  rw [e8] at HI1
  have HI2 := Lib.hid (fun h1 al cl w1 R RL => Into_any chV h1 12 al cl [] w1 chV_wf R (by decide) RL (by decide))
  rw [e11] at HI2
  have HI3 := Lib.hid (fun h1 al cl w1 R RL => Into_any chV h1 4 al cl [(0, 0), (0, 0), (0, 0), (0, 0), (0, 0)] w1 chV_wf R (by decide) RL (by decide))
  rw [e12] at HI3
  have HKA : Hid (∀ h1 a c w1, SRd w1 A h1 → Rd .i64 w1 a [5, 6, 7, 0] → Calls Try.prog 23 #[sval A h1, .slice a 4 c] w1 fun e w' => e = .returned (.bool true) ∧ Below w1.heap.size w1 w') := Lib.hid (fun h1 a c w1 R hx => by
    have := keys_any A h1 a c [5, 6, 7, 0] w1 R hx (by rw [e5]; decide) (by decide)
    rwa [show decide (A.ks = [5, 6, 7, 0]) = true by rw [e5]; decide] at this)
  have HKB : Hid (∀ h1 a c w1, SRd w1 B h1 → Rd .i64 w1 a [1, 0, 0, 0, 2, 0, 0, 0] → Calls Try.prog 23 #[sval B h1, .slice a 8 c] w1 fun e w' => e = .returned (.bool true) ∧ Below w1.heap.size w1 w') := Lib.hid (fun h1 a c w1 R hx => by
    have := keys_any B h1 a c [1, 0, 0, 0, 2, 0, 0, 0] w1 R hx (by rw [e9]; decide) (by decide)
    rwa [show decide (B.ks = [1, 0, 0, 0, 2, 0, 0, 0]) = true by rw [e9]; decide] at this)
  have HLB := Lib.hid e10
  clear e1 e2 e3 e4 e5 e6 e7 e8 e9 e10 e11 e12
  go_enter Try.func6, Try.ntmps6
  have E0 := Lib.hid ((St.below w))
  go_wp2_with fail
  refine (HCH.out _).mono ?_
  rintro e w1 ⟨hc1, rfl, ho, hb⟩
  have E1 := Lib.hid ((E0.out.next hb).and (St.own ho))
  clear hb
  clear ho
  go_wp2_with fail
  refine (HW1.out hc1 _ (SOwn.rd E1.out.now.1)).mono ?_
  rintro e w2 ⟨hd1, rfl, ho, hb⟩
  have E2 := Lib.hid (E1.out.next hb)
  clear hb
  clear ho
  go_wp2_with fail
  rw [allocS_fold]
  have E3 := Lib.hid ((E2.out.next (allocS_below w2 N hd1)).and (St.bs (allocS_bs w2 N hd1)))
  generalize allocS w2 N hd1 = w3 at *
  refine (HCH.out _).mono ?_
  rintro e w4 ⟨hc2, rfl, ho, hb⟩
  have E4 := Lib.hid ((E3.out.next hb).and (St.own ho))
  clear hb
  clear ho
  go_wp2_with fail
  refine (HW2.out hc2 _ (SOwn.rd E4.out.now.1)).mono ?_
  rintro e w5 ⟨hd2, rfl, ho, hb⟩
  have E5 := Lib.hid (E4.out.next hb)
  clear hb
  clear ho
  go_wp2_with fail
  rw [allocS_fold]
  have E6 := Lib.hid ((E5.out.next (allocS_below w5 N hd2)).and (St.bs (allocS_bs w5 N hd2)))
  generalize allocS w5 N hd2 = w6 at *
  refine (HCH.out _).mono ?_
  rintro e w7 ⟨hc3, rfl, ho, hb⟩
  have E7 := Lib.hid ((E6.out.next hb).and (St.own ho))
  clear hb
  clear ho
  go_wp2_with fail
  refine (HW3.out hc3 _ (SOwn.rd E7.out.now.1)).mono ?_
  rintro e w8 ⟨hd3, rfl, ho, hb⟩
  have E8 := Lib.hid (E7.out.next hb)
  clear hb
  clear ho
  go_wp2_with fail
  rw [allocS_fold]
  have E9 := Lib.hid ((E8.out.next (allocS_below w8 N hd3)).and (St.bs (allocS_bs w8 N hd3)))
  generalize allocS w8 N hd3 = w9 at *
  refine (HCH.out _).mono ?_
  rintro e w10 ⟨hc4, rfl, ho, hb⟩
  have E10 := Lib.hid ((E9.out.next hb).and (St.own ho))
  clear hb
  clear ho
  go_wp2_with fail
  refine (HW4.out hc4 _ (SOwn.rd E10.out.now.1)).mono ?_
  rintro e w11 ⟨hd4, rfl, ho, hb⟩
  have E11 := Lib.hid ((E10.out.next hb).and (St.own ho))
  clear hb
  clear ho
  go_wp2_with fail
  rw [allocS_fold]
  have E12 := Lib.hid ((E11.out.next (allocS_below w11 A hd4)).and (St.bs (allocS_bs w11 A hd4)))
  generalize allocS w11 A hd4 = w12 at *
  refine (HCH.out _).mono ?_
  rintro e w13 ⟨hc5, rfl, ho, hb⟩
  have E13 := Lib.hid ((E12.out.next hb).and (St.own ho))
  clear hb
  clear ho
  go_wp2_with fail
  refine (HE1.out hc5 _ (SOwn.rd E13.out.now.1)).mono ?_
  rintro e w14 ⟨hd5, rfl, ho, hb⟩
  have E14 := Lib.hid (E13.out.next hb)
  clear hb
  clear ho
  go_wp2_with fail
  rw [allocS_fold]
  have E15 := Lib.hid ((E14.out.next (allocS_below w14 N hd5)).and (St.bs (allocS_bs w14 N hd5)))
  generalize allocS w14 N hd5 = w15 at *
  refine (HE2.out _).mono ?_
  rintro e w16 ⟨hd6, rfl, ho, hb⟩
  have E16 := Lib.hid (E15.out.next hb)
  clear hb
  clear ho
  go_wp2_with fail
  rw [allocS_fold]
  have E17 := Lib.hid ((E16.out.next (allocS_below w16 N hd6)).and (St.bs (allocS_bs w16 N hd6)))
  generalize allocS w16 N hd6 = w17 at *
  refine (HCH.out _).mono ?_
  rintro e w18 ⟨hc7, rfl, ho, hb⟩
  have E18 := Lib.hid ((E17.out.next hb).and (St.own ho))
  clear hb
  clear ho
  go_wp2_with fail
  have E19 := Lib.hid ((E18.out.next (below_lit w18 (.cells #[.int .i64 1, .int .i64 0, .int .i64 2, .int .i64 0] 42))).and (St.rd2 (rd2_lits (w := w18) (news := #[.int .i64 1, .int .i64 0, .int .i64 2, .int .i64 0]) (zs := [(1, 0), (2, 0)]) rfl rfl (by decide))))
  generalize w18.alloc (.cells #[.int .i64 1, .int .i64 0, .int .i64 2, .int .i64 0] 42) = wb at *
  refine (HI1.out hc7 _ _ _ (SOwn.rd E19.out.now.2.1) E19.out.now.1).mono ?_
  rintro e w20 ⟨hd7, rfl, ho, hb⟩
  have E20 := Lib.hid ((E19.out.next hb).and (St.own ho))
  clear hb
  clear ho
  go_wp2_with fail
  rw [allocS_fold]
  have E21 := Lib.hid ((E20.out.next (allocS_below w20 B hd7)).and (St.bs (allocS_bs w20 B hd7)))
  generalize allocS w20 B hd7 = w21 at *
  refine (HCH.out _).mono ?_
  rintro e w22 ⟨hc8, rfl, ho, hb⟩
  have E22 := Lib.hid ((E21.out.next hb).and (St.own ho))
  clear hb
  clear ho
  go_wp2_with fail
  refine (HI2.out hc8 Option.none 0 _ (SOwn.rd E22.out.now.1) (.inl rfl)).mono ?_
  rintro e w23 ⟨hd8, rfl, ho, hb⟩
  have E23 := Lib.hid (E22.out.next hb)
  clear hb
  clear ho
  go_wp2_with fail
  rw [allocS_fold]
  have E24 := Lib.hid ((E23.out.next (allocS_below w23 N hd8)).and (St.bs (allocS_bs w23 N hd8)))
  generalize allocS w23 N hd8 = w24 at *
  refine wp_region_any mixed' ?_
  change wpAny _ _ _ _ (0 + 9) _ _ _
  refine Mix.any_gen (w := w24) (Below.refl _ _).drew ?_
  intro wx hbx
  have E25 := Lib.hid (E24.out.next hbx)
  clear hbx
  generalize hA : Act.mk _ _ = A1
  have hszA1 : A1.tmps.size = 126 := by rw [← hA]; rfl
  have HA1 := Lib.hid hA
  clear hA
  refine Mix.wpAny_dagO (Array.replicate 9 true) 0 lnS lnD (lnI wx N) (by decide) (by decide) ⟨Below.refl _ _, fun i v hv => by cases hv⟩ ?hop (by kernel_rfl) ?tail
  case hop =>
    intro p hp B W K hI hBn hd hk
    have EW := Lib.hid (E25.out.next hI.below)
    have hev : ∀ i d v, (i, some d) ∈ lnS → d < 126 → B i = some v → (Mix.putO A1 lnS B).tmps[d]?.getD undef = v := fun i d v h1 h2 h3 => by have := Mix.putO_eval A1 lnS B i d v (by decide) (by decide) h1 (by rw [hszA1]; exact h2) h3; simpa [Act.eval] using this
    simp only [lnS, List.mem_cons, List.not_mem_nil, or_false] at hp
    rcases hp with rfl | rfl | rfl | rfl | rfl | rfl | rfl | rfl | rfl
    · refine Mix.wpOp_call rfl rfl (f := 22) (args := #[]) ?_ ((HCH.out W).mono ?_)
      · simp [execOp, resolve, go_sem]
      · rintro e w' ⟨h', rfl, ho, hb'⟩
        exact ⟨_, rfl, hk _ _ (hI.next hb' (fun _ => ⟨h', rfl, SOwn.rd ho⟩))⟩
    · have hm := make5_run W
      refine Mix.wpOp_value rfl rfl (v := .slice (some ⟨W.heap.size, 0, Option.none⟩) 5 5) (W' := W.alloc (.cells (madeCells (Value.agg #[.int .i64 0, .int .i64 0]).cells 10) 42)) ?_ (hk _ _ (hI.next (below_lit _ _) (fun _ => ⟨_, _, rfl, rd2_make5 W⟩)))
      simp [execOp, go_sem, hm]
    · obtain ⟨v0, g0⟩ := hd (0, some 67) (by decide) (by decide)
      obtain ⟨h0, rfl, r0⟩ := hI.f 0 _ g0 hBn
      have y0 := hev 0 67 _ (by decide) (by decide) g0
      obtain ⟨v1, g1⟩ := hd (1, some 68) (by decide) (by decide)
      obtain ⟨a1, k1, rfl, r1⟩ := hI.f 1 _ g1 hBn
      have y1 := hev 1 68 _ (by decide) (by decide) g1
      refine Mix.wpOp_call rfl rfl (f := 11) (args := #[sval chV h0, .int .i64 4, .slice a1 5 k1]) ?_ ((HI3.out h0 a1 k1 W r0 r1).mono ?_)
      · simp [execOp, resolve, y0, y1, go_sem]
      · rintro e w' ⟨h', rfl, ho, hb'⟩
        exact ⟨_, rfl, hk _ _ (hI.next hb' ⟨h', rfl⟩)⟩
    · obtain ⟨v2, g2⟩ := hd (2, some 69) (by decide) (by decide)
      obtain ⟨h', rfl⟩ := hI.f 2 _ g2
      have y2 := hev 2 69 _ (by decide) (by decide) g2
      refine Mix.wpOp_value rfl rfl (v := .tuple #[sval N h', .int .i64 2]) (W' := W) ?_ (hk _ _ (hI.next (Below.refl _ _) ⟨h', rfl⟩))
      simp [execOp, go_sem, y2]
    · obtain ⟨v3, g3⟩ := hd (3, some 66) (by decide) (by decide)
      obtain ⟨h', rfl⟩ := hI.f 3 _ g3
      have y3 := hev 3 66 _ (by decide) (by decide) g3
      refine Mix.wpOp_value rfl rfl (v := sval N h') (W' := W) ?_ (hk _ _ (hI.next (Below.refl _ _) ⟨h', rfl⟩))
      simp [execOp, go_sem, y3]
    · obtain ⟨v3, g3⟩ := hd (3, some 66) (by decide) (by decide)
      obtain ⟨h', rfl⟩ := hI.f 3 _ g3
      have y3 := hev 3 66 _ (by decide) (by decide) g3
      refine Mix.wpOp_value rfl rfl (v := .int .i64 2) (W' := W) ?_ (hk _ _ (hI.next (Below.refl _ _) rfl))
      simp [execOp, go_sem, y3]
    · refine Mix.wpOp_value rfl rfl (v := .pointer (some ⟨W.heap.size, 0, Option.none⟩)) (W' := allocS W noneS noneH) ?_ (hk _ _ (hI.next (allocS_below W noneS noneH) ⟨_, rfl, hI.below.size, fun _ => allocS_bs W noneS noneH⟩))
      simp [execOp, go_sem, allocS]
      rfl
    · obtain ⟨v2, g2⟩ := hd (2, some 69) (by decide) (by decide)
      obtain ⟨v4, g4⟩ := hd (4, some 70) (by decide) (by decide)
      obtain ⟨h', rfl⟩ := hI.f 4 _ g4
      have y4 := hev 4 70 _ (by decide) (by decide) g4
      obtain ⟨v6, g6⟩ := hd (6, some 17) (by decide) (by decide)
      obtain ⟨b, rfl, hlb, bx⟩ := hI.f 6 _ g6
      have y6 := hev 6 17 _ (by decide) (by decide) g6
      obtain ⟨⟨c0, c1, c2, c3, c4, c5, fb⟩, -⟩ := bx hBn
      have f0 := fb 0; have f1 := fb 1; have f2 := fb 2; have f3 := fb 3; have f4 := fb 4; have f5 := fb 5
      clear fb
      refine Mix.wpOp_skip rfl rfl (W' := stS W b N h') ?_ (hk _ _ (hI.store (stS_below hI.below hlb) (by rw [g2]; simp)))
      simp [execOp, go_sem, y4, y6, c0, c1, c2, c3, c4, c5, f0, f1, f2, f3, f4, f5]
      rfl
    · obtain ⟨v5, g5⟩ := hd (5, some 71) (by decide) (by decide)
      obtain rfl := hI.f 5 _ g5
      have y5 := hev 5 71 _ (by decide) (by decide) g5
      refine Mix.wpOp_value rfl rfl (v := .int .i64 2) (W' := W) ?_ (hk _ _ (hI.next (Below.refl _ _) rfl))
      simp [execOp, go_sem, y5]
  case tail =>
    intro B1 W1 hI hB
    obtain ⟨v0, g0⟩ := hB (0, some 67) (by decide)
    obtain ⟨v1, g1⟩ := hB (1, some 68) (by decide)
    obtain ⟨v2, g2⟩ := hB (2, some 69) (by decide)
    obtain ⟨v3, g3⟩ := hB (3, some 66) (by decide)
    obtain ⟨v4, g4⟩ := hB (4, some 70) (by decide)
    obtain ⟨v5, g5⟩ := hB (5, some 71) (by decide)
    obtain ⟨v6, g6⟩ := hB (6, some 17) (by decide)
    obtain ⟨v7, g7⟩ := hB (7, none) (by decide)
    obtain ⟨v8, g8⟩ := hB (8, some 18) (by decide)
    dsimp only at g0 g1 g2 g3 g4 g5 g6 g7 g8
    obtain rfl : v8 = .int .i64 2 := hI.f 8 _ g8
    clear hB
    have EW := Lib.hid (E25.out.next hI.below)
    have E26 := EW
    clear EW
    have hAA1 := HA1.out
    subst hAA1
    clear HA1 hszA1
    simp only [lnS, Mix.putO, g0, g1, g2, g3, g4, g5, g6, g7, g8]
    simp only [Act.put]
    clear g0 g1 g2 g3 g4 g5 g6 g7 g8
    refine Mix.wpAny_tail [false, false, false, false, false, false, false, false, false] (Array.replicate 9 true) (by kernel_rfl) (by kernel_rfl) ?_
    simp only [Mix.maskL]
    go_wp2_with fail
    refine (HAL.out _).mono ?_
    rintro e w27 ⟨rfl, hb⟩
    have E27 := Lib.hid (E26.out.next hb)
    clear hb
    obtain ⟨-, -, -, -, -, -, -, -, -, ⟨⟨bx4_0, bx4_1, bx4_2, bx4_3, bx4_4, bx4_5, -⟩, bx4_l⟩, -, -, -, -, -, -, -, -, -⟩ := E27.out.now
    go_wp2_with fail
    clear bx4_0 bx4_1 bx4_2 bx4_3 bx4_4 bx4_5 bx4_l
    have E28 := Lib.hid ((E27.out.next (below_lit w27 (.cells #[.int .i64 5, .int .i64 6, .int .i64 7, .int .i64 0] 2))).and (St.rdk (rd_lit (k := .i64) (w := w27) (news := #[.int .i64 5, .int .i64 6, .int .i64 7, .int .i64 0]) (e := 2) (zs := [5, 6, 7, 0]) rfl)))
    generalize w27.alloc (.cells #[.int .i64 5, .int .i64 6, .int .i64 7, .int .i64 0] 2) = wl28 at *
    refine (HKA.out hd4 _ _ _ (SOwn.rd E28.out.now.2.2.2.2.2.2.2.2.2.2.2.1) E28.out.now.1).mono ?_
    rintro e w29 ⟨rfl, hb⟩
    have E29 := Lib.hid (E28.out.next hb)
    clear hb
    obtain ⟨-, -, -, ⟨⟨bx7_0, bx7_1, bx7_2, bx7_3, bx7_4, bx7_5, -⟩, bx7_l⟩, -, -, -, -, -, -, -, -, -, -, -, -, -, -, -, -⟩ := E29.out.now
    go_wp2_with fail
    clear bx7_0 bx7_1 bx7_2 bx7_3 bx7_4 bx7_5 bx7_l
    have E30 := Lib.hid ((E29.out.next (below_lit w29 (.cells #[.int .i64 1, .int .i64 0, .int .i64 0, .int .i64 0, .int .i64 2, .int .i64 0, .int .i64 0, .int .i64 0] 2))).and (St.rdk (rd_lit (k := .i64) (w := w29) (news := #[.int .i64 1, .int .i64 0, .int .i64 0, .int .i64 0, .int .i64 2, .int .i64 0, .int .i64 0, .int .i64 0]) (e := 2) (zs := [1, 0, 0, 0, 2, 0, 0, 0]) rfl)))
    generalize w29.alloc (.cells #[.int .i64 1, .int .i64 0, .int .i64 0, .int .i64 0, .int .i64 2, .int .i64 0, .int .i64 0, .int .i64 0] 2) = wl30 at *
    refine (HKB.out hd7 _ _ _ (SOwn.rd E30.out.now.2.2.2.2.2.1) E30.out.now.1).mono ?_
    rintro e w31 ⟨rfl, hb⟩
    have E31 := Lib.hid (E30.out.next hb)
    clear hb
    obtain ⟨yg, yw, yk, yv, yc, yl⟩ := B
    dsimp only at HLB
    obtain rfl := HLB.out
    obtain ⟨-, -, -, -, ⟨⟨bx7_0, bx7_1, bx7_2, bx7_3, bx7_4, bx7_5, -⟩, bx7_l⟩, -, -, -, -, -, -, -, -, -, -, -, -, -, -, -, -⟩ := E31.out.now
    dsimp only at bx7_0 bx7_1 bx7_2 bx7_3 bx7_4 bx7_5
    go_wp2_with fail
    go_ret
    exact ⟨by simp, E31.out.now.2.2.2.2.2.2.2.2.2.2.2.2.2.2.2.2.2.2.2.2⟩
end Go.Proofs.Ytfokbkkgokioeaa.Lay
