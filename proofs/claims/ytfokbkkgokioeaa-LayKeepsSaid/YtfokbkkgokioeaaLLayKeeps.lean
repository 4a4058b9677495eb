/- Package lay's laws: the chapter's slots; has an array these keys; the chapter's examples. Contracts of package spread: how many lie ahead. Contracts of package spread, and of the document's answer: shares; lists of numbers. Package lay's laws: the plain facts. The law LayKeeps: its walk. -/
import Derived.Test.YtfokbkkgokioeaaMao
set_option linter.unusedSimpArgs false
set_option linter.unusedVariables false
namespace Go.Proofs.Ytfokbkkgokioeaa.Lay
open Go.RowKit Go.Shelf Go.Sort Go.Proofs.Ytfokbkkgokioeaa Go.Proofs.Ytfokbkkgokioeaa.Occ Go.Proofs.Ytfokbkkgokioeaa.Slo
attribute [local go_sem] sval Oper.semAt_some

theorem wfS {s : Sl} (h1 : (Lit.int .i64 s.seg).wf = true) (h2 : (s.ws.all fun z => decide (0 ≤ z ∧ z < 18446744073709551616)) = true) (h3 : decide (0 ≤ s.laid ∧ s.laid < 18446744073709551616) = true)
    (h4 : decide (s.ws.length ≤ 100000 ∧ s.ks.length ≤ 100000 ∧ s.vs.length ≤ 100000 ∧ s.cs.length ≤ 100000) = true) : s.Wf := wf_of h1 h2 h3 (by simpa using h4)
theorem rd_lit {k : IntKind} {w : World} {news : Array Value} {e : TypeId} {zs : List Int} (h : news.toList = zs.map (Value.int k)) : Rd k (w.alloc (.cells news e)) (some ⟨w.heap.size, 0, Option.none⟩) zs := by
  refine .inr ⟨_, _, rfl, by simp, fun i hi => ?_⟩
  have := new_cells w e news i (.int k (zs.getD i 0)) (by rw [h]; simp [List.getD_eq_getElem?_getD, hi])
  rwa [Addr.add_lit] at this
theorem below_lit (w : World) (o : Obj) : Below w.heap.size w (w.alloc o) := (Below.refl _ w).alloc (Nat.le_refl _) _
def chV : Sl := layV (layV (emptyV 4 4) 0 5 0) 1 6 0
theorem chapter_plain : ∃ A B C : Sl, newSV 4 4 = (A, 0) ∧ A.Wf ∧ laySV A 0 5 0 = (B, 0) ∧ B.Wf ∧ laySV B 1 6 0 = (C, 0) ∧ C = chV :=
  ⟨emptyV 4 4, layV (emptyV 4 4) 0 5 0, chV, by decide +kernel, wfS (by decide +kernel) (by decide +kernel) (by decide +kernel) (by decide +kernel), by decide +kernel, wfS (by decide +kernel) (by decide +kernel) (by decide +kernel) (by decide +kernel), by decide +kernel, rfl⟩
theorem chV_wf : chV.Wf := wfS (by decide +kernel) (by decide +kernel) (by decide +kernel) (by decide +kernel)
theorem alive_lay : ∃ E F : Sl, evenSV chV 0 4 = (E, 0) ∧ E.ks = [5, 0, 6, 0] ∧ E.laid = 4 ∧ withSV chV 0 4 0 9 0 = (F, 0) ∧ F.ks = [9, 5, 6, 0] ∧ F.laid = 5 :=
  ⟨(evenSV chV 0 4).1, (withSV chV 0 4 0 9 0).1, by decide +kernel, by decide +kernel, by decide +kernel, by decide +kernel, by decide +kernel, by decide +kernel⟩

set_option maxRecDepth 100000 in
set_option maxHeartbeats 4000000 in
theorem chapter_any (w : World) : Calls Try.prog 22 #[] w fun e w' => ∃ h', e = .returned (sval chV h') ∧ SOwn w' w.heap.size w'.heap.size chV h' ∧ Below w.heap.size w w' := by
  obtain ⟨A, B, C, e1, wA, e2, wB, e3, e4⟩ := chapter_plain
  have HN := Lib.hid (fun w1 => New_any 4 4 w1 (by decide) (by decide))
  rw [e1] at HN
  have HL1 := Lib.hid (fun h1 w1 R => Lay_any A h1 0 5 0 w1 wA R)
  rw [e2] at HL1
  have HL2 := Lib.hid (fun h1 w1 R => Lay_any B h1 1 6 0 w1 wB R)
  rw [e3] at HL2
  have HC := Lib.hid e4
  rw [← e4]
  clear e1 e2 e3 e4 wA wB
  go_enter Try.func22, Try.ntmps22
  have E0 := Lib.hid (((St.below' (allocS_below w noneS noneH))).and (St.bs (allocS_bs w noneS noneH)))
  go_wp2_with fail
  rw [show w.alloc (.cells #[.int .i64 0, .slice Option.none 0 0, .slice Option.none 0 0, .slice Option.none 0 0, .slice Option.none 0 0, .int .u64 0] 27) = allocS w noneS noneH from rfl]
  generalize hw0 : allocS w noneS noneH = w0 at *
  have hz0 : w0.heap.size = w.heap.size + 1 := by rw [← hw0, allocS_size]
  clear hw0
  refine (HN.out _).mono ?_
  rintro e w1 ⟨ha, rfl, ho, hb⟩
  have E1 := Lib.hid ((E0.out.next hb).and (St.own ho))
  clear hb
  clear ho
  go_wp2_with fail
  rw [allocS_fold]
  have E2 := Lib.hid ((E1.out.next (allocS_below w1 A ha)).and (St.bs (allocS_bs w1 A ha)))
  generalize allocS w1 A ha = w2 at *
  refine (HL1.out ha _ (SOwn.rd E2.out.now.2.1)).mono ?_
  rintro e w3 ⟨hb1, rfl, ho, hb⟩
  have E3 := Lib.hid ((E2.out.next hb).and (St.own ho))
  clear hb
  clear ho
  obtain ⟨-, ⟨⟨bs_0, bs_1, bs_2, bs_3, bs_4, bs_5, -⟩, bs_l⟩, -, -, -⟩ := E3.out.now
  have fb := E3.out.now.2.1.box.f
  have f0 := fb 0; have f1 := fb 1; have f2 := fb 2; have f3 := fb 3; have f4 := fb 4; have f5 := fb 5
  clear fb
  go_wp2_with fail
  rw [stS_fold]
  clear bs_0 bs_1 bs_2 bs_3 bs_4 bs_5 bs_l
  clear f0 f1 f2 f3 f4 f5
  have hz1 : w.heap.size < w1.heap.size := E1.out.now.2.1.lt
  have hz2 : w1.heap.size < w2.heap.size := E2.out.now.1.lt
  have hst : Below w1.heap.size w3 (stS w3 w1.heap.size B hb1) := stS_below (Below.refl _ _) (Nat.le_refl _)
  have hkk : Keeps w1.heap.size w3.heap.size w3.heap.size w3 _ := ⟨hst, fun i h1 h2 => by omega⟩
  have E4 := Lib.hid (((((St.below' (stS_below (p := w1.heap.size) (s := B) (h := hb1) E3.out.now.2.2.2.2 (Nat.le_of_lt hz1)))).and (St.own (stS_own (s := B) (h := hb1) E3.out.now.1 hz2))).and (St.bs (stS_bs (s := B) (h := hb1) E3.out.now.2.1))).and (St.bs (keeps_bs hkk E3.out.now.2.2.2.1 (.inl hz1))))
  clear hst hkk
  generalize stS w3 w1.heap.size B hb1 = w4 at *
  clear hz1 hz2
  refine (HL2.out hb1 _ (SOwn.rd E4.out.now.2.2.1)).mono ?_
  rintro e w5 ⟨hc1, rfl, ho, hb⟩
  have E5 := Lib.hid ((E4.out.next hb).and (St.own ho))
  clear hb
  clear ho
  obtain ⟨-, -, ⟨⟨bs_0, bs_1, bs_2, bs_3, bs_4, bs_5, -⟩, bs_l⟩, -, -⟩ := E5.out.now
  have fb := E5.out.now.2.2.1.box.f
  have f0 := fb 0; have f1 := fb 1; have f2 := fb 2; have f3 := fb 3; have f4 := fb 4; have f5 := fb 5
  clear fb
  have hz1 : w.heap.size < w1.heap.size := E1.out.now.2.1.lt
  have hz2 : w1.heap.size < w4.heap.size := E4.out.now.2.1.lt
  have hne : w1.heap.size ≠ w.heap.size := by omega
  have d0 := E5.out.now.2.1.box.c0; have d1 := E5.out.now.2.1.box.c1; have d2 := E5.out.now.2.1.box.c2; have d3 := E5.out.now.2.1.box.c3; have d4 := E5.out.now.2.1.box.c4; have d5 := E5.out.now.2.1.box.c5
  have g := E5.out.now.2.1.box.f
  have g0 := g 0; have g1 := g 1; have g2 := g 2; have g3 := g 3; have g4 := g 4; have g5 := g 5
  clear g
  go_wp2
  rw [stS_fold, stS_fold]
  have hst : Below w1.heap.size w5 (stS w5 w1.heap.size C hc1) := stS_below (Below.refl _ _) (Nat.le_refl _)
  have hkk : Keeps w1.heap.size w5.heap.size w5.heap.size w5 _ := ⟨hst, fun i h1 h2 => by omega⟩
  have D4 := stS_box (s := C) (h := hc1) (keeps_bs hkk E5.out.now.2.1 (.inl hz1)).box
  have q0 := D4.c0; have q1 := D4.c1; have q2 := D4.c2; have q3 := D4.c3; have q4 := D4.c4; have q5 := D4.c5
  refine bodyPost_ret (v := sval C hc1) (by simp [results, Try.results22, sval, go_sem, q0, q1, q2, q3, q4, q5]) rfl ⟨hc1, rfl, ?_, ?_⟩
  · exact (stS_own (stS_own E5.out.now.1 hz2) (by omega)).mono (by omega) (by rw [stS_size, stS_size]; exact Nat.le_refl _)
  · exact stS_below (stS_below E5.out.now.2.2.2.2 (Nat.le_of_lt hz1)) (Nat.le_refl _)

set_option maxRecDepth 100000 in
set_option maxHeartbeats 4000000 in
theorem keys_any (s : Sl) (h : Hd) (a : Option Addr) (c : Nat) (xs : List Int) (w : World) (R : SRd w s h) (hx : Rd .i64 w a xs) (l1 : s.ks.length ≤ 1000000) (l2 : xs.length ≤ 1000000) :
    Calls Try.prog 23 #[sval s h, .slice a xs.length c] w fun e w' => e = .returned (.bool (decide (s.ks = xs))) ∧ Below w.heap.size w w' := by
  have HK := Lib.hid (fun w1 (hb : Below w.heap.size w w1) => sameKeys_any h.ak a h.ck c s.ks xs w1 (R.mono hb (Nat.le_refl _)).fk (hx.mono hb (Nat.le_refl _)) (by omega) (by omega))
  have HB := Lib.hid (allocS_below w s h)
  have HX := Lib.hid (allocS_bs w s h)
  clear R hx l1 l2
  unfold sval at *
  go_enter Try.func23, Try.ntmps23
  go_wp2_with fail
  rw [allocS_fold]
  refine (HK.out _ HB.out).mono ?_
  rintro e w1 ⟨rfl, hb⟩
  go_wp2
  go_ret
  exact ⟨rfl, HB.out.trans (hb.mono HB.out.size)⟩

set_option maxRecDepth 100000 in
set_option maxHeartbeats 8000000 in
theorem alive_any (w : World) : Calls Try.prog 20 #[] w fun e w' => e = .returned (.bool true) ∧ Below w.heap.size w w' := by
  obtain ⟨E, F, e1, e2, e3, e4, e5, e6⟩ := alive_lay
  have HE := Lib.hid (fun h1 w1 R => Even_any chV h1 0 4 w1 chV_wf R)
  rw [e1] at HE
  have HF := Lib.hid (fun h1 w1 R => lWith_any chV h1 0 4 0 9 0 w1 chV_wf R)
  rw [e4] at HF
  have HCH := Lib.hid (fun w1 => chapter_any w1)
  have HK1 : Hid (∀ h1 a c w1, SRd w1 E h1 → Rd .i64 w1 a [5, 0, 6, 0] → Calls Try.prog 23 #[sval E h1, .slice a 4 c] w1 fun e w' => e = .returned (.bool true) ∧ Below w1.heap.size w1 w') := Lib.hid (fun h1 a c w1 R hx => by
    have := keys_any E h1 a c [5, 0, 6, 0] w1 R hx (by rw [e2]; decide) (by decide)
    rwa [show decide (E.ks = [5, 0, 6, 0]) = true by rw [e2]; decide] at this)
  have HK2 : Hid (∀ h1 a c w1, SRd w1 F h1 → Rd .i64 w1 a [9, 5, 6, 0] → Calls Try.prog 23 #[sval F h1, .slice a 4 c] w1 fun e w' => e = .returned (.bool true) ∧ Below w1.heap.size w1 w') := Lib.hid (fun h1 a c w1 R hx => by
    have := keys_any F h1 a c [9, 5, 6, 0] w1 R hx (by rw [e5]; decide) (by decide)
    rwa [show decide (F.ks = [9, 5, 6, 0]) = true by rw [e5]; decide] at this)
  generalize chV = C at *
  have H3 := Lib.hid e3
  have H6 := Lib.hid e6
  clear e1 e2 e3 e4 e5 e6
  go_enter Try.func20, Try.ntmps20
  have E0 := Lib.hid ((St.below w))
  go_wp2_with fail
  refine (HCH.out _).mono ?_
  rintro e w1 ⟨hc, rfl, ho, hb⟩
  have E1 := Lib.hid ((E0.out.next hb).and (St.own ho))
  clear hb
  clear ho
  go_wp2_with fail
  refine (HE.out hc _ (SOwn.rd E1.out.now.1)).mono ?_
  rintro e w2 ⟨he, rfl, ho, hb⟩
  have E2 := Lib.hid ((E1.out.next hb).and (St.own ho))
  clear hb
  clear ho
  go_wp2_with fail
  rw [allocS_fold]
  have E3 := Lib.hid ((E2.out.next (allocS_below w2 E he)).and (St.bs (allocS_bs w2 E he)))
  generalize allocS w2 E he = w3 at *
  refine (HCH.out _).mono ?_
  rintro e w4 ⟨hd, rfl, ho, hb⟩
  have E4 := Lib.hid ((E3.out.next hb).and (St.own ho))
  clear hb
  clear ho
  go_wp2_with fail
  refine (HF.out hd _ (SOwn.rd E4.out.now.1)).mono ?_
  rintro e w5 ⟨hf, rfl, ho, hb⟩
  have E5 := Lib.hid ((E4.out.next hb).and (St.own ho))
  clear hb
  clear ho
  obtain ⟨-, -, ⟨⟨be_0, be_1, be_2, be_3, be_4, be_5, -⟩, be_l⟩, -, -, -⟩ := E5.out.now
  go_wp2_with fail
  clear be_0 be_1 be_2 be_3 be_4 be_5 be_l
  have hzF := allocS_size w5 F hf
  rw [allocS_fold]
  have E6 := Lib.hid ((E5.out.next (allocS_below w5 F hf)).and (St.bs (allocS_bs w5 F hf)))
  generalize allocS w5 F hf = w6 at *
  have E7 := Lib.hid ((E6.out.next (below_lit w6 (.cells #[.int .i64 5, .int .i64 0, .int .i64 6, .int .i64 0] 2))).and (St.rdk (by have hl := rd_lit (k := .i64) (w := w6) (news := #[.int .i64 5, .int .i64 0, .int .i64 6, .int .i64 0]) (e := 2) (zs := [5, 0, 6, 0]) rfl; rw [hzF] at hl; exact hl)))
  generalize w6.alloc (.cells #[.int .i64 5, .int .i64 0, .int .i64 6, .int .i64 0] 2) = w7 at *
  refine (HK1.out he _ _ _ (SOwn.rd E7.out.now.2.2.2.2.2.1) E7.out.now.1).mono ?_
  rintro e w8 ⟨rfl, hb⟩
  have E8 := Lib.hid (E7.out.next hb)
  clear hb
  obtain ⟨xg, xw, xk, xv, xc, xl⟩ := E
  dsimp only at H3
  obtain rfl := H3.out
  obtain ⟨-, ⟨⟨bf_0, bf_1, bf_2, bf_3, bf_4, bf_5, -⟩, bf_l⟩, -, -, ⟨⟨be_0, be_1, be_2, be_3, be_4, be_5, -⟩, be_l⟩, -, -, -⟩ := E8.out.now
  dsimp only at be_0 be_1 be_2 be_3 be_4 be_5
  go_wp2_with fail
  clear be_0 be_1 be_2 be_3 be_4 be_5 be_l bf_0 bf_1 bf_2 bf_3 bf_4 bf_5 bf_l
  have E9 := Lib.hid ((E8.out.next (below_lit w8 (.cells #[.int .i64 9, .int .i64 5, .int .i64 6, .int .i64 0] 2))).and (St.rdk (rd_lit (k := .i64) (w := w8) (news := #[.int .i64 9, .int .i64 5, .int .i64 6, .int .i64 0]) (e := 2) (zs := [9, 5, 6, 0]) rfl)))
  generalize w8.alloc (.cells #[.int .i64 9, .int .i64 5, .int .i64 6, .int .i64 0] 2) = w9 at *
  refine (HK2.out hf _ _ _ (SOwn.rd E9.out.now.2.2.2.1) E9.out.now.1).mono ?_
  rintro e w10 ⟨rfl, hb⟩
  have E10 := Lib.hid (E9.out.next hb)
  clear hb
  obtain ⟨yg, yw, yk, yv, yc, yl⟩ := F
  dsimp only at H6
  obtain rfl := H6.out
  obtain ⟨-, -, ⟨⟨bf_0, bf_1, bf_2, bf_3, bf_4, bf_5, -⟩, bf_l⟩, -, -, -, -, -, -⟩ := E10.out.now
  dsimp only at bf_0 bf_1 bf_2 bf_3 bf_4 bf_5
  go_wp2_with fail
  go_ret
  exact ⟨by simp, E10.out.now.2.2.2.2.2.2.2.2⟩
end Go.Proofs.Ytfokbkkgokioeaa.Lay

namespace Go.Proofs.Ytfokbkkgokioeaa.Spr
open Go.RowKit Go.Shelf Go.Proofs.Ytfokbkkgokioeaa
attribute [local go_sem] Oper.semAt_some

def rankV (n f t y : Int) : Int × Int := if mayB n f t = true ∧ f ≤ y ∧ y ≤ t then (((cnt n.toNat (t - f).toNat (y - f).toNat : Nat) : Int), 0) else (0, 2)

/-- Of places: those below a slot. -/
theorem cnt_places (n f d y : Nat) (hy : f ≤ y) : (placesL n f d).countP (fun x => decide (x < (y : Int))) = cnt n d (y - f) := by
  unfold placesL upto cnt
  rw [List.countP_map]
  apply List.countP_congr
  intro i _
  rw [Function.comp, decide_eq_true_eq, decide_eq_true_eq]
  unfold place
  generalize i * d / n = q
  omega
theorem places_ge (n f d : Nat) : ∀ x ∈ placesL n f d, (f : Int) ≤ x := by
  intro x hx
  unfold placesL upto at hx
  obtain ⟨i, _, rfl⟩ := List.mem_map.1 hx
  unfold place
  generalize i * d / n = q
  omega
theorem cnt_prefix {n f d y : Nat} {ini : List Int} {x : Int} (hy : f ≤ y) (hp : ini ++ [x] <+: placesL n f d) (hi : ∀ z ∈ ini, z < (y : Int)) (hx : (y : Int) ≤ x) : ((ini.length : Nat) : Int) = ((cnt n d (y - f) : Nat) : Int) := by
  rw [← cnt_places n f d y hy]
  obtain ⟨rest, hr⟩ := hp
  have hlen : ini.length < n := by
    have := congrArg List.length hr
    rw [placesL_length] at this
    simp at this; omega
  have hxi : x = ((place n f d ini.length : Nat) : Int) := by
    have h1 : (placesL n f d)[ini.length]? = some x := by rw [← hr]; simp
    unfold placesL upto at h1
    rw [List.getElem?_map, List.getElem?_range hlen] at h1
    simpa using h1.symm
  have hrest : ∀ z ∈ rest, (y : Int) ≤ z := by
    intro z hz
    obtain ⟨j, hj, hzj⟩ := List.getElem_of_mem hz
    have h1 : (placesL n f d)[ini.length + 1 + j]? = some z := by
      rw [← hr, List.getElem?_append_right (by simp)]
      simp only [List.length_append, List.length_cons, List.length_nil]
      rw [show ini.length + 1 + j - (ini.length + (0 + 1)) = j by omega, List.getElem?_eq_getElem hj, hzj]
    have hl2 : ini.length + 1 + j < n := by
      have := (List.getElem?_eq_some_iff.1 h1).1
      rwa [placesL_length] at this
    unfold placesL upto at h1
    rw [List.getElem?_map, List.getElem?_range hl2] at h1
    have hz2 : z = ((place n f d (ini.length + 1 + j) : Nat) : Int) := by simpa using h1.symm
    have hm := place_mono (d := d) (n := n) (show ini.length ≤ ini.length + 1 + j by omega)
    unfold place at *
    omega
  rw [← hr, List.append_assoc, List.countP_append]
  have h0 : ini.countP (fun x => decide (x < (y : Int))) = ini.length := by
    rw [List.countP_eq_length]
    intro z hz; simpa using hi z hz
  have h1 : ([x] ++ rest).countP (fun x => decide (x < (y : Int))) = 0 := by
    rw [List.countP_eq_zero]
    intro z hz
    rcases List.mem_append.1 hz with h | h
    · simp at h; subst h; simpa using hx
    · simpa using hrest z h
  omega
theorem cnt_all {n f d y : Nat} (hy : f ≤ y) (hi : ∀ z ∈ placesL n f d, z < (y : Int)) : (n : Int) = ((cnt n d (y - f) : Nat) : Int) := by
  rw [← cnt_places n f d y hy]
  have : (placesL n f d).countP (fun x => decide (x < (y : Int))) = (placesL n f d).length := by
    rw [List.countP_eq_length]
    intro z hz; simpa using hi z hz
  rw [this, placesL_length]

end Go.Proofs.Ytfokbkkgokioeaa.Spr

namespace Go.Proofs.Ytfokbkkgokioeaa.Spr
open Go.RowKit Go.Shelf Go.Proofs.Ytfokbkkgokioeaa

def shareN (n p k : Nat) : Nat := ceilD ((k + 1) * n) p - ceilD (k * n) p
def askB (n f t p k : Int) : Bool := mayB n f t && decide (1 ≤ p) && decide ((t - f) % p = 0) && decide (0 ≤ k) && decide (k < p)
def shareV (n f t p k : Int) : Int × Int := if askB n f t p k = true then (((shareN n.toNat p.toNat k.toNat : Nat) : Int), 0) else (0, 2)
theorem askB_iff {n f t p k : Int} : askB n f t p k = true ↔ mayB n f t = true ∧ 1 ≤ p ∧ (t - f) % p = 0 ∧ 0 ≤ k ∧ k < p := by
  unfold askB; simp only [Bool.and_eq_true, decide_eq_true_eq, and_assoc]
theorem shareN_zero (p k : Nat) : shareN 0 p k = 0 := by unfold shareN; simp

set_option maxHeartbeats 1000000 in
theorem first_any (k n p B5 B8 : Nat) (w : World) (h5 : w.cell? ⟨B5, 0, Option.none⟩ = some (.int .i64 n)) (h8 : w.cell? ⟨B8, 0, Option.none⟩ = some (.int .i64 p)) (hk : k ≤ 65536) (hn : n ≤ 65536) (hp : p ≤ 65536) (hp1 : 1 ≤ p) :
    Calls Try.prog 44 #[.int .i64 k, .pointer (some ⟨B5, 0, Option.none⟩), .pointer (some ⟨B8, 0, Option.none⟩)] w fun e w' => e = .returned (.int .i64 ((ceilD (k * n) p : Nat) : Int)) ∧ w = w' := by
  have p0 : 0 ≤ (k : Int) * (n : Int) := Int.mul_nonneg (by omega) (by omega)
  have p1 : (k : Int) * (n : Int) ≤ 65536 * 65536 := Int.mul_le_mul (by omega) (by omega) (by omega) (by omega)
  have H : Hid (((ceilD (k * n) p : Nat) : Int) = ((k : Int) * (n : Int) + (p : Int) - 1) / (p : Int)) := Lib.hid (by
    unfold ceilD
    have e : ((k * n + p - 1 : Nat) : Int) = (k : Int) * (n : Int) + (p : Int) - 1 := by
      have : ((k * n : Nat) : Int) = (k : Int) * (n : Int) := by simp
      omega
    rw [Int.natCast_ediv, e])
  go_enter Try.func44, Try.ntmps44
  go_wp2
  go_ret
  exact ⟨ret_int H.out.symm, rfl⟩

set_option maxRecDepth 100000 in
set_option maxHeartbeats 4000000 in
theorem Share_any (n f t p k : Int) (w : World) : Calls Try.prog 24 #[.int .i64 n, .int .i64 f, .int .i64 t, .int .i64 p, .int .i64 k] w fun e w' => e = .returned (.tuple #[.int .i64 (shareV n f t p k).1, .int .i64 (shareV n f t p k).2]) ∧ Below w.heap.size w w' := by
  have hb2 : Below w.heap.size w ((w.alloc (.cells #[.int .i64 n] 3)).alloc (.cells #[.int .i64 p] 3)) := ((Below.refl _ w).alloc (Nat.le_refl _) _).alloc (by simp) _
  by_cases h : askB n f t p k = true
  · have HV := Lib.hid (show shareV n f t p k = (((shareN n.toNat p.toNat k.toNat : Nat) : Int), 0) from if_pos h)
    obtain ⟨hm, h1, h2, h3, h4⟩ := askB_iff.1 h
    have HM := Lib.hid hm
    obtain ⟨m1, m2, m3, m4, m5⟩ := mayB_iff.1 hm
    have h2' := Int.emod_eq_zero_of_dvd (Int.dvd_of_emod_eq_zero h2)
    have hrem : ((t - f) % p == 0) = true := by rw [h2]; rfl
    have hrem2 : ((t - f) % p != 0) = false := by rw [h2]; rfl
    clear h hm
    by_cases hz : t = f
    · have H0 : Hid (shareV n f t p k = (0, 0)) := Lib.hid (by rw [HV.out, show n.toNat = 0 by omega, shareN_zero]; rfl)
      subst hz
      clear HV h2 h2'
      go_enter Try.func24, Try.ntmps24
      go_wp2_with fail
      refine (may_any _ _ _ _).mono ?_
      rintro e w' ⟨rfl, rfl⟩
      rw [HM.out]
      go_wp2
      go_ret2
      exact ⟨ret_pair H0.out, hb2⟩
    · obtain ⟨n, rfl⟩ := Int.eq_ofNat_of_zero_le m4
      obtain ⟨f, rfl⟩ := Int.eq_ofNat_of_zero_le m1
      obtain ⟨t, rfl⟩ := Int.eq_ofNat_of_zero_le (show 0 ≤ t by omega)
      obtain ⟨p, rfl⟩ := Int.eq_ofNat_of_zero_le (show 0 ≤ p by omega)
      obtain ⟨k, rfl⟩ := Int.eq_ofNat_of_zero_le h3
      have hple : (p : Int) ≤ (t : Int) - (f : Int) := by
        obtain ⟨q, hq⟩ := Int.dvd_of_emod_eq_zero h2
        have hq1 : 1 ≤ q := by
          rcases Int.lt_or_le q 1 with g | g
          · have := Int.mul_le_mul_of_nonneg_left (show q ≤ 0 by omega) (show (0 : Int) ≤ (p : Int) by omega)
            omega
          · exact g
        have := Int.mul_le_mul_of_nonneg_left hq1 (show (0 : Int) ≤ (p : Int) by omega)
        omega
      have hfirst := fun k B5 B8 w h5 h8 hk => first_any k n p B5 B8 w h5 h8 hk (by omega) (by omega) (by omega)
      have HF := Lib.hid hfirst
      have hmono := ceilD_mono (b := p) (show k * n ≤ (k + 1) * n from Nat.mul_le_mul_right _ (by omega))
      have hle : ceilD ((k + 1) * n) p ≤ n := ceilD_le _ _ _ (by omega) (by rw [Nat.mul_comm n]; exact Nat.mul_le_mul_right _ (by omega))
      have HS : Hid (shareN n p k = ceilD ((k + 1) * n) p - ceilD (k * n) p) := Lib.hid rfl
      rw [Int.toNat_natCast, Int.toNat_natCast, Int.toNat_natCast] at HV
      clear hfirst h2 h2'
      have hzi : ((t : Int) == (f : Int)) = false := by rw [beq_eq_false_iff_ne]; exact hz
      go_enter Try.func24, Try.ntmps24
      go_wp2_with fail
      refine (may_any _ _ _ _).mono ?_
      rintro e w' ⟨rfl, rfl⟩
      rw [HM.out]
      go_wp2_with fail
      rw [show (k : Int) + 1 = ((k + 1 : Nat) : Int) by omega]
      refine (HF.out (k + 1) _ _ _ ?_ ?_ (by omega)).mono ?_
      · go_simp
      · go_simp
      rintro e w1 ⟨rfl, rfl⟩
      generalize ceilD ((k + 1) * n) p = c1 at *
      go_wp2_with fail
      refine (HF.out k _ _ _ ?_ ?_ (by omega)).mono ?_
      · go_simp
      · go_simp
      rintro e w1 ⟨rfl, rfl⟩
      generalize ceilD (k * n) p = c2 at *
      go_wp2
      go_ret2
      refine ⟨ret_pair ?_, hb2⟩
      rw [HV.out, HS.out]
      congr 1
      omega
  · have H : Hid (shareV n f t p k = (0, 2)) := Lib.hid (if_neg h)
    by_cases hm : mayB n f t = true
    · have HM := Lib.hid hm
      obtain ⟨m1, m2, m3, m4, m5⟩ := mayB_iff.1 hm
      by_cases h1 : 1 ≤ p
      · by_cases h2 : (t - f) % p = 0
        · have hrem2 : ((t - f) % p != 0) = false := by rw [h2]; rfl
          by_cases h3 : 0 ≤ k
          · have h4 : ¬ k < p := fun g => h (askB_iff.2 ⟨hm, h1, h2, h3, g⟩)
            clear h hm h2
            go_enter Try.func24, Try.ntmps24
            go_wp2_with fail
            refine (may_any _ _ _ _).mono ?_
            rintro e w' ⟨rfl, rfl⟩
            rw [HM.out]
            go_wp2
            go_ret2
            exact ⟨ret_pair H.out, hb2⟩
          · clear h hm h2
            go_enter Try.func24, Try.ntmps24
            go_wp2_with fail
            refine (may_any _ _ _ _).mono ?_
            rintro e w' ⟨rfl, rfl⟩
            rw [HM.out]
            go_wp2
            go_ret2
            exact ⟨ret_pair H.out, hb2⟩
        · have hrem2 : ((t - f) % p != 0) = true := by rw [bne_iff_ne]; exact h2
          clear h hm h2
          go_enter Try.func24, Try.ntmps24
          go_wp2_with fail
          refine (may_any _ _ _ _).mono ?_
          rintro e w' ⟨rfl, rfl⟩
          rw [HM.out]
          go_wp2
          go_ret2
          exact ⟨ret_pair H.out, hb2⟩
      · clear h hm
        go_enter Try.func24, Try.ntmps24
        go_wp2_with fail
        refine (may_any _ _ _ _).mono ?_
        rintro e w' ⟨rfl, rfl⟩
        rw [HM.out]
        go_wp2
        go_ret2
        exact ⟨ret_pair H.out, hb2⟩
    · have HM : Hid (mayB n f t = false) := Lib.hid (by simpa using hm)
      clear h hm
      go_enter Try.func24, Try.ntmps24
      go_wp2_with fail
      refine (may_any _ _ _ _).mono ?_
      rintro e w' ⟨rfl, rfl⟩
      rw [HM.out]
      go_wp2
      go_ret2
      exact ⟨ret_pair H.out, hb2⟩

end Go.Proofs.Ytfokbkkgokioeaa.Spr

namespace Go.Proofs.Ytfokbkkgokioeaa.Lay
open Go.RowKit Go.Shelf Go.Sort Go.Proofs.Ytfokbkkgokioeaa Go.Proofs.Ytfokbkkgokioeaa.Occ Go.Proofs.Ytfokbkkgokioeaa.Slo

theorem prs_add (s : Sl) (f a b : Nat) : prs s f (a + b) = prs s f a ++ prs s (f + a) b := by unfold prs; rw [occs_add, List.map_append]
theorem prsV_nat {s : Sl} (hok : okS s = true) {a b : Nat} (h1 : a ≤ b) (h2 : b ≤ s.ks.length) : prsV s a b = (prs s a (b - a), 0) := by
  unfold prsV
  have e : askS s (inB s.ks.length (a : Int) (b : Int)) = 0 := by
    rw [inB_iff.2 ⟨by omega, by omega, by omega⟩]; exact askS_in hok
  rw [if_pos e, show ((b : Int) - (a : Int)).toNat = b - a by omega]
  simp
/-- A part's numbers. -/
theorem part_nat {s : Sl} {f t : Int} (h : (prsV s f t).2 = 0) : okS s = true ∧ ∃ a b : Nat, f = a ∧ t = b ∧ a ≤ b ∧ b ≤ s.ks.length := by
  obtain ⟨hok, hin⟩ := askS_ok (prsV_ask h)
  obtain ⟨h0, h1, h2⟩ := inB_iff.1 hin
  exact ⟨hok, f.toNat, t.toNat, by omega, by omega, by omega, by omega⟩
theorem prsV_split {s : Sl} {a b : Nat} (hok : okS s = true) (h1 : a ≤ b) (h2 : b ≤ s.ks.length) :
    (prsV s 0 s.ks.length).1 = (prsV s 0 a).1 ++ ((prsV s a b).1 ++ (prsV s b s.ks.length).1) := by
  have e0 := prsV_nat hok (a := 0) (b := s.ks.length) (by omega) (by omega)
  have e1 := prsV_nat hok (a := 0) (b := a) (by omega) (by omega)
  have e2 := prsV_nat hok (a := a) (b := b) (by omega) (by omega)
  have e3 := prsV_nat hok (a := b) (b := s.ks.length) (by omega) (by omega)
  rw [show ((0 : Nat) : Int) = 0 from rfl] at e0 e1
  rw [e0, e1, e2, e3]
  dsimp only
  have x1 := prs_add s 0 a (s.ks.length - a)
  have x2 := prs_add s a (b - a) (s.ks.length - b)
  rw [show a + (s.ks.length - a) = s.ks.length - 0 by omega, Nat.zero_add] at x1
  rw [show b - a + (s.ks.length - b) = s.ks.length - a by omega, show a + (b - a) = b by omega] at x2
  rw [x1, x2]; rfl
theorem fill_spread {s : Sl} {f t : Int} {ps : List (Int × Int)} (h : askS s (inB s.ks.length f t) = 0) (hl : (ps.length : Int) ≤ t - f) :
    fillSV s f t (Spr.placesL ps.length f.toNat (t.toNat - f.toNat)) ps = (spreadV s f.toNat t.toNat ps, 0) := by
  obtain ⟨hok, hin⟩ := askS_ok h
  obtain ⟨h0, h1, h2⟩ := inB_iff.1 hin
  have hpart := places_part ps.length f.toNat (t.toNat - f.toNat) (by omega)
  rw [show ((f.toNat : Nat) : Int) = f by omega, show ((f.toNat + (t.toNat - f.toNat) : Nat) : Int) = t by omega] at hpart
  unfold fillSV
  rw [if_neg (by rw [h]; simp), if_neg (by rw [hpart, Spr.placesL_length]; simp)]
  rfl
/-- What the laws ask of a part that is spread. -/
structure Kept (s : Sl) (f t : Int) (ps : List (Int × Int)) (X : Sl) : Prop where
  wx : X.Wf
  lk : X.ks.length = s.ks.length
  pin : prsV X f t = (ps, 0)
  pa : prsV X 0 f = prsV s 0 f ∧ (prsV s 0 f).2 = 0
  all : prsV X 0 X.ks.length = ((prsV s 0 f).1 ++ (ps ++ (prsV s t s.ks.length).1), 0)
  laid : X.laid = IntKind.u64.wrap (s.laid + ps.length)
  ok : okS X = true
theorem chkS_zero {s : Sl} (h : chkS s = 0) : okS s = true := by
  unfold chkS at h
  split at h
  · assumption
  · simp at h
theorem spread_kept {s : Sl} {f t : Int} {ps : List (Int × Int)} (hu : U64 s.ws) (hl : 0 ≤ s.laid ∧ s.laid < 18446744073709551616) (h : askS s (inB s.ks.length f t) = 0) (hn : (ps.length : Int) ≤ t - f) :
    Kept s f t ps (spreadV s f.toNat t.toNat ps) := by
  have e := fill_spread h hn
  obtain ⟨X, eX, T⟩ := whole_of (xs := Spr.placesL ps.length f.toNat (t.toNat - f.toNat)) hu hl (by rw [e])
  rw [e] at eX
  obtain rfl : spreadV s f.toNat t.toNat ps = X := (Prod.mk.inj eX).1
  have hkX := chkS_zero T.ck
  obtain ⟨_, a, b, rfl, rfl, h1, h2⟩ := part_nat (show (prsV (spreadV s f.toNat t.toNat ps) f t).2 = 0 by rw [T.pin])
  refine ⟨T.wx, T.lk, T.pin, T.pa, ?_, T.laid, hkX⟩
  have x := prsV_split hkX h1 h2
  have y := prsV_nat hkX (Nat.zero_le _) (Nat.le_refl _)
  rw [T.pa.1, T.pin, T.pc.1] at x
  rw [← x]
  have y' : (prsV (spreadV s (a : Int).toNat (b : Int).toNat ps) 0 ((spreadV s (a : Int).toNat (b : Int).toNat ps).ks.length : Int)).2 = 0 := by
    have := congrArg Prod.snd y
    exact this
  exact Prod.ext rfl y'

theorem even_kept {s : Sl} {f t : Int} (hu : U64 s.ws) (hl : 0 ≤ s.laid ∧ s.laid < 18446744073709551616) (h : (prsV s f t).2 = 0) :
    ∃ X, evenSV s f t = (X, 0) ∧ Kept s f t (prsV s f t).1 X ∧ prsV X 0 X.ks.length = prsV s 0 s.ks.length ∧ (prsV s 0 s.ks.length).2 = 0 := by
  refine ⟨spreadV s f.toNat t.toNat (prsV s f t).1, by unfold evenSV; rw [if_neg (by rw [h]; simp)], spread_kept hu hl (prsV_ask h) (prsV_fits h).1, ?_, ?_⟩
  · have K := spread_kept hu hl (prsV_ask h) (prsV_fits h).1
    rw [K.all]
    obtain ⟨hok, a, b, rfl, rfl, h1, h2⟩ := part_nat h
    rw [← prsV_split hok h1 h2]
    have y := prsV_nat hok (Nat.zero_le _) (Nat.le_refl _)
    have y' : (prsV s 0 (s.ks.length : Int)).2 = 0 := congrArg Prod.snd y
    exact Prod.ext rfl y'.symm
  · obtain ⟨hok, a, b, rfl, rfl, h1, h2⟩ := part_nat h
    exact congrArg Prod.snd (prsV_nat hok (Nat.zero_le _) (Nat.le_refl _))
theorem even_no {s : Sl} {f t : Int} (h : (prsV s f t).2 ≠ 0) : evenSV s f t = (noneS, (prsV s f t).2) := if_pos h
/-- With one more. -/
theorem with_kept {s : Sl} {f t k x y : Int} (hu : U64 s.ws) (hl : 0 ≤ s.laid ∧ s.laid < 18446744073709551616) (h : (withSV s f t k x y).2 = 0) :
    ∃ X, withSV s f t k x y = (X, 0) ∧ 0 ≤ k ∧ k ≤ ((prsV s f t).1.length : Int) ∧ Kept s f t (amongV (prsV s f t).1 k.toNat x y) X := by
  unfold withSV at h ⊢
  by_cases h1 : (prsV s f t).2 ≠ 0
  · rw [if_pos h1] at h; exact absurd h h1
  rw [if_neg h1] at h ⊢
  by_cases h2 : ((prsV s f t).1.length : Int) = t - f
  · rw [if_pos h2] at h; simp at h
  rw [if_neg h2] at h ⊢
  by_cases h3 : k < 0 ∨ ((prsV s f t).1.length : Int) < k
  · rw [if_pos h3] at h; simp at h
  rw [if_neg h3]
  have h1 : (prsV s f t).2 = 0 := Classical.not_not.1 h1
  have hf := (prsV_fits h1).1
  refine ⟨_, rfl, by omega, by omega, spread_kept hu hl (prsV_ask h1) ?_⟩
  rw [amongV_length _ _ _ _ (by omega)]; omega
theorem with_no {s : Sl} {f t k x y : Int} (h : (withSV s f t k x y).2 ≠ 0) : (withSV s f t k x y).1 = noneS := by
  unfold withSV at *
  by_cases h1 : (prsV s f t).2 ≠ 0
  · rw [if_pos h1]
  rw [if_neg h1] at h ⊢
  by_cases h2 : ((prsV s f t).1.length : Int) = t - f
  · rw [if_pos h2]
  rw [if_neg h2] at h ⊢
  by_cases h3 : k < 0 ∨ ((prsV s f t).1.length : Int) < k
  · rw [if_pos h3]
  · rw [if_neg h3] at h; exact absurd rfl h
theorem among_take (l : List (Int × Int)) (k : Nat) (x y : Int) (h : k ≤ l.length) : (amongV l k x y).take k = l.take k ∧ (amongV l k x y).drop (k + 1) = l.drop k ∧ (amongV l k x y).getD k (0, 0) = (x, y) := by
  unfold amongV
  have e : (l.take k).length = k := by rw [List.length_take]; omega
  refine ⟨?_, ?_, ?_⟩
  · rw [List.take_append_of_le_length (by omega), List.take_of_length_le (by omega)]
  · rw [List.drop_append, List.drop_eq_nil_of_le (by omega), e, show k + 1 - k = 1 by omega]; rfl
  · rw [List.getD_eq_getElem?_getD, List.getElem?_append_right (by omega), e, Nat.sub_self]; rfl

/-- What stands where, of a part that is spread. -/
structure Facts (s : Sl) (f t : Nat) (ps : List (Int × Int)) (X : Sl) (g q : Nat) : Prop where
  i0 : Is s g q s.ks.length
  i1 : Is X g q s.ks.length
  at_ : ∀ j, j < ps.length → occB X.ws (f + j * (t - f) / ps.length) = true ∧ pairAt X (f + j * (t - f) / ps.length) = ps.getD j (0, 0)
  no : ∀ i, f ≤ i → i < t → (∀ j, j < ps.length → f + j * (t - f) / ps.length ≠ i) → occB X.ws i = false
  out : ∀ i, i < f ∨ t ≤ i → occB X.ws i = occB s.ws i ∧ pairAt X i = pairAt s i
theorem spread_facts {s : Sl} {f t : Nat} {ps : List (Int × Int)} (hu : U64 s.ws) (hl : 0 ≤ s.laid ∧ s.laid < 18446744073709551616) (hok : okS s = true) (hft : f ≤ t) (htn : t ≤ s.ks.length) (hn : ps.length ≤ t - f) :
    ∃ g q, Facts s f t ps (spreadV s f t ps) g q := by
  obtain ⟨g, q, o⟩ := okS_iff.1 hok
  have I : Is s g q s.ks.length := ⟨o, hu, hl, rfl⟩
  have IY := I.clr (f := f) (t - f) (by omega)
  obtain ⟨c1, c2, c3⟩ := clr_facts (f := f) I (t - f) (by omega)
  have hp := places_part ps.length f (t - f) hn
  rw [show f + (t - f) = t by omega] at hp
  have eX : spreadV s f t ps = layL (clrV s f (t - f)) (Spr.placesL ps.length f (t - f)) ps (Spr.placesL ps.length f (t - f)).length := rfl
  have hat : ∀ j, j < ps.length → (Spr.placesL ps.length f (t - f)).getD j 0 = ((f + j * (t - f) / ps.length : Nat) : Int) := fun j hj => places_at _ _ _ _ hj
  have hll := Spr.placesL_length ps.length f (t - f)
  generalize Spr.placesL ps.length f (t - f) = xs at *
  have hge := partB_ge hp
  have hlt : ∀ k, k < xs.length → xs.getD k 0 < (t : Int) := fun k hk => (partB_iff.1 hp k hk).2
  have hx : ∀ k, k < xs.length → 0 ≤ xs.getD k 0 ∧ xs.getD k 0 < (s.ks.length : Int) := fun k hk => by have := hge k hk; have := hlt k hk; omega
  have hr := rises_of hp
  have IX := IY.layL (ps := ps) hx xs.length (Nat.le_refl _)
  obtain ⟨d1, d2, d3⟩ := lay_facts IY (ps := ps) hx hr xs.length (Nat.le_refl _)
  rw [← eX] at IX d1 d2 d3
  generalize spreadV s f t ps = X at *
  refine ⟨g, q, I, IX, fun j hj => ?_, fun i h1 h2 h3 => ?_, fun i hi => ?_⟩
  · have := d1 j (by omega)
    rw [hat j hj] at this
    exact this
  · have := (d2 i fun j hj => by rw [hat j (by omega)]; have := h3 j (by omega); omega).1
    rw [this, c1, if_pos (by omega)]
  · obtain ⟨e1, e2⟩ := d2 i fun j hj => by have := hge j hj; have := hlt j hj; omega
    rw [e1, e2, c1, if_neg (by omega)]
    exact ⟨rfl, c2 i (by omega)⟩

/-- Words that have the same bits are the same. -/
theorem words_ext {a b : List Int} (ha : U64 a) (hb : U64 b) (hl : a.length = b.length) (h : ∀ i, i < 64 * a.length → occB a i = occB b i) : a = b := by
  refine List.ext_getElem hl fun i h1 h2 => ?_
  have e1 := wd_int ha i
  have e2 := wd_int hb i
  rw [show a.getD i 0 = a[i] by simp [List.getD_eq_getElem?_getD, h1]] at e1
  rw [show b.getD i 0 = b[i] by simp [List.getD_eq_getElem?_getD, h2]] at e2
  rw [e1, e2]
  have : wd a i = wd b i := by
    apply Nat.eq_of_testBit_eq
    intro j
    by_cases hj : j < 64
    · have := h (64 * i + j) (by omega)
      unfold occB at this
      rwa [show (64 * i + j) / 64 = i by omega, show (64 * i + j) % 64 = j by omega] at this
    · have p : (2 : Nat) ^ 64 ≤ 2 ^ j := Nat.pow_le_pow_right (by decide) (by omega)
      have q1 : wd a i < 2 ^ 64 := wd_of ha i
      have q2 : wd b i < 2 ^ 64 := wd_of hb i
      rw [Nat.testBit_lt_two_pow (by omega), Nat.testBit_lt_two_pow (by omega)]
  rw [this]
/-- Two that have the same slots are the same but for the ledger. -/
theorem is_ext {X Y : Sl} {g q n : Nat} (hx : Is X g q n) (hy : Is Y g q n) (ho : ∀ i, i < n → occB Y.ws i = occB X.ws i) (hp : ∀ i, i < n → occB X.ws i = true → pairAt Y i = pairAt X i) : { Y with laid := X.laid } = X := by
  have hpa : ∀ i, i < n → pairAt Y i = pairAt X i := fun i hi => by
    cases e : occB X.ws i
    · obtain ⟨a1, a2⟩ := hx.o.blank i (by rw [hx.n]; exact hi) e
      obtain ⟨b1, b2⟩ := hy.o.blank i (by rw [hy.n]; exact hi) ((ho i hi).trans e)
      unfold pairAt; rw [a1, a2, b1, b2]
    · exact hp i hi e
  have ew : Y.ws = X.ws := by
    refine words_ext hy.u hx.u (by rw [hy.o.w, hx.o.w, hy.n, hx.n]) fun i hi => ?_
    by_cases h : i < n
    · exact ho i h
    · rw [hy.o.z i (by rw [hy.n]; omega) hi, hx.o.z i (by rw [hx.n]; omega) (by rw [hx.o.w, hx.n]; rw [hy.o.w, hy.n] at hi; exact hi)]
  have ek : Y.ks = X.ks := by
    refine List.ext_getElem (by rw [hy.n, hx.n]) fun i h1 h2 => ?_
    have := congrArg Prod.fst (hpa i (by rw [hy.n] at h1; exact h1))
    simpa [pairAt, List.getD_eq_getElem?_getD, h1, h2] using this
  have ev : Y.vs = X.vs := by
    refine List.ext_getElem (by rw [hy.o.v, hx.o.v, hy.n, hx.n]) fun i h1 h2 => ?_
    have := congrArg Prod.snd (hpa i (by rw [hy.o.v, hy.n] at h1; exact h1))
    simpa [pairAt, List.getD_eq_getElem?_getD, h1, h2] using this
  have ec : Y.cs = X.cs := by
    refine List.ext_getElem (by rw [hy.o.c, hx.o.c]) fun i h1 h2 => ?_
    have c1 := hy.o.cnt i (by rw [hy.o.c] at h1; exact h1)
    have c2 := hx.o.cnt i (by rw [hx.o.c] at h2; exact h2)
    rw [ew, ← c2] at c1
    simpa [List.getD_eq_getElem?_getD, h1, h2] using c1
  have es : Y.seg = X.seg := by rw [hy.o.seg, hx.o.seg]
  obtain ⟨x1, x2, x3, x4, x5, x6⟩ := X
  obtain ⟨y1, y2, y3, y4, y5, y6⟩ := Y
  dsimp only at *
  subst ew ek ev ec es
  rfl
/-- What is spread is spread. -/
theorem even_again {s X : Sl} {f t : Int} (hu : U64 s.ws) (hl : 0 ≤ s.laid ∧ s.laid < 18446744073709551616) (h : evenSV s f t = (X, 0)) :
    X.Wf ∧ X.ks.length = s.ks.length ∧ ∃ Y, evenSV X f t = (Y, 0) ∧ { Y with laid := X.laid } = X := by
  have h0 : (prsV s f t).2 = 0 := by
    refine Classical.not_not.1 fun e => ?_
    rw [even_no e] at h
    exact e (Prod.mk.inj h).2
  have hf := (prsV_fits h0).1
  obtain ⟨X', e1, K, -⟩ := even_kept hu hl h0
  obtain rfl : X' = X := (Prod.mk.inj (e1.symm.trans h)).1
  have eX : X' = spreadV s f.toNat t.toNat (prsV s f t).1 := by
    have h2 := e1
    unfold evenSV at h2
    rw [if_neg (by rw [h0]; simp)] at h2
    exact (Prod.mk.inj h2).1.symm
  obtain ⟨hok, a, b, rfl, rfl, h1, h2⟩ := part_nat h0
  refine ⟨K.wx, K.lk, spreadV X' a b (prsV s a b).1, ?_, ?_⟩
  · unfold evenSV
    rw [K.pin, if_neg (by simp)]
    simp
  · generalize prsV s a b = V at *
    obtain ⟨ps, e⟩ := V
    dsimp only at *
    simp only [Int.toNat_natCast] at eX
    have hn : ps.length ≤ b - a := by omega
    obtain ⟨g, q, F1⟩ := spread_facts (f := a) (t := b) (ps := ps) hu hl hok h1 h2 hn
    rw [← eX] at F1
    have hn2 := F1.i1.n
    obtain ⟨g2, q2, F2⟩ := spread_facts (s := X') (f := a) (t := b) (ps := ps) F1.i1.u F1.i1.l K.ok h1 (by omega) hn
    have eg : g2 = g := by have x := F2.i0.o.seg; have y := F1.i1.o.seg; omega
    subst eg
    have eq : q2 = q := by have x := F2.i0.o.c; have y := F1.i1.o.c; omega
    subst eq
    have I1 := F2.i1
    rw [hn2] at I1
    refine is_ext F1.i1 I1 (fun i hi => ?_) (fun i hi ho => ?_)
    · by_cases hin : a ≤ i ∧ i < b
      · by_cases hj : ∃ j, j < ps.length ∧ a + j * (b - a) / ps.length = i
        · obtain ⟨j, hj, rfl⟩ := hj
          rw [(F2.at_ j hj).1, (F1.at_ j hj).1]
        · have hno : ∀ j, j < ps.length → a + j * (b - a) / ps.length ≠ i := fun j h3 h4 => hj ⟨j, h3, h4⟩
          rw [F2.no i hin.1 hin.2 hno, F1.no i hin.1 hin.2 hno]
      · exact (F2.out i (by omega)).1
    · by_cases hin : a ≤ i ∧ i < b
      · by_cases hj : ∃ j, j < ps.length ∧ a + j * (b - a) / ps.length = i
        · obtain ⟨j, hj, rfl⟩ := hj
          rw [(F2.at_ j hj).2, (F1.at_ j hj).2]
        · have hno : ∀ j, j < ps.length → a + j * (b - a) / ps.length ≠ i := fun j h3 h4 => hj ⟨j, h3, h4⟩
          rw [F1.no i hin.1 hin.2 hno] at ho; cases ho
      · exact (F2.out i (by omega)).2
/-- How many of a part's first slots are occupied. -/
theorem facts_cnt {s X : Sl} {f t : Nat} {ps : List (Int × Int)} {g q : Nat} (F : Facts s f t ps X g q) (hft : f ≤ t) (hn : ps.length ≤ t - f) {y : Nat} (hy : y ≤ t - f) : (occs X.ws f y).length = Spr.cnt ps.length (t - f) y := by
  have e : occs X.ws f y = ((List.range ps.length).filter (fun i => decide (i * (t - f) / ps.length < y))).map (fun i => f + i * (t - f) / ps.length) := by
    refine occs_eq ?_ fun i => ?_
    · rw [List.pairwise_map]
      refine List.Pairwise.filter _ ?_
      refine List.Pairwise.imp_of_mem ?_ (List.pairwise_lt_range (n := ps.length))
      intro a b ha hb hab
      have := List.mem_range.1 hb
      have h1 := div_step (t - f) ps.length a hn (by omega)
      have h2 := Spr.place_mono (d := t - f) (n := ps.length) (show a + 1 ≤ b from hab)
      omega
    · rw [List.mem_map]
      constructor
      · rintro ⟨j, hj, rfl⟩
        obtain ⟨h1, h2⟩ := List.mem_filter.1 hj
        have h1 := List.mem_range.1 h1
        have h2 : j * (t - f) / ps.length < y := by simpa using h2
        exact ⟨⟨Nat.le_add_right _ _, Nat.add_lt_add_left h2 f⟩, (F.at_ j h1).1⟩
      · rintro ⟨hi, ho⟩
        refine Classical.byContradiction fun hno => ?_
        have := F.no i hi.1 (by omega) fun j hj e => hno ⟨j, List.mem_filter.2 ⟨List.mem_range.2 hj, by simp; omega⟩, e⟩
        rw [this] at ho; cases ho
  rw [e, List.length_map]
  unfold Spr.cnt
  rw [List.countP_eq_length_filter]
/-- Each part has its share. -/
theorem even_share {s X : Sl} {f t p k : Int} (hu : U64 s.ws) (hl : 0 ≤ s.laid ∧ s.laid < 18446744073709551616) (h : evenSV s f t = (X, 0)) (hs : (Spr.shareV (prsV s f t).1.length f t p k).2 = 0) :
    1 ≤ p ∧ 0 ≤ k ∧ k < p ∧ (prsV s f t).2 = 0 ∧ cntV X.ws X.ks.length (f + k * ((t - f) / p)) (f + (k + 1) * ((t - f) / p)) = ((Spr.shareV (prsV s f t).1.length f t p k).1, 0) := by
  have h0 : (prsV s f t).2 = 0 := by
    refine Classical.not_not.1 fun e => ?_
    rw [even_no e] at h
    exact e (Prod.mk.inj h).2
  have hf := (prsV_fits h0).1
  obtain ⟨X', e1, K, -⟩ := even_kept hu hl h0
  obtain rfl : X' = X := (Prod.mk.inj (e1.symm.trans h)).1
  have eX : X' = spreadV s f.toNat t.toNat (prsV s f t).1 := by
    have h2 := e1
    unfold evenSV at h2
    rw [if_neg (by rw [h0]; simp)] at h2
    exact (Prod.mk.inj h2).1.symm
  have hask : Spr.askB (prsV s f t).1.length f t p k = true := by
    cases e : Spr.askB (prsV s f t).1.length f t p k
    · unfold Spr.shareV at hs; rw [e] at hs; simp at hs
    · rfl
  obtain ⟨-, a1, a2, a3, a4⟩ := Spr.askB_iff.1 hask
  refine ⟨a1, a3, a4, h0, ?_⟩
  have eS : Spr.shareV (prsV s f t).1.length f t p k = (((Spr.shareN (prsV s f t).1.length p.toNat k.toNat : Nat) : Int), 0) := by unfold Spr.shareV; rw [if_pos hask]; simp
  rw [eS]
  obtain ⟨hok, a, b, rfl, rfl, h1, h2⟩ := part_nat h0
  have hn1 := K.lk
  have hokX := K.ok
  clear hs eS h e1 K hask
  generalize prsV s a b = V at *
  obtain ⟨ps, e⟩ := V
  dsimp only at *
  simp only [Int.toNat_natCast] at eX
  have hn : ps.length ≤ b - a := by omega
  obtain ⟨g, q, F⟩ := spread_facts (f := a) (t := b) (ps := ps) hu hl hok h1 h2 hn
  rw [← eX] at F
  obtain ⟨P, rfl⟩ := Int.eq_ofNat_of_zero_le (show 0 ≤ p by omega)
  obtain ⟨k, rfl⟩ := Int.eq_ofNat_of_zero_le a3
  have hd : ((b : Int) - (a : Int)) = ((b - a : Nat) : Int) := by omega
  rw [hd] at a2 ⊢
  have hm : (b - a) % P = 0 := by
    have : (((b - a) % P : Nat) : Int) = ((b - a : Nat) : Int) % (P : Int) := by simp
    omega
  have hq := Nat.div_add_mod (b - a) P
  rw [hm, Nat.add_zero] at hq
  have hdv : ((b - a : Nat) : Int) / (P : Int) = (((b - a) / P : Nat) : Int) := by simp
  rw [hdv]
  generalize (b - a) / P = W at *
  have hkW : (k + 1) * W ≤ P * W := Nat.mul_le_mul_right W (by omega)
  have hk1 : (k + 1) * W = k * W + W := by rw [Nat.add_mul, Nat.one_mul]
  have c1 := facts_cnt F h1 hn (y := k * W) (by omega)
  have c2 := facts_cnt F h1 hn (y := (k + 1) * W) (by omega)
  have hsp := occs_add X'.ws a (k * W) W
  rw [← hk1] at hsp
  have hsl := congrArg List.length hsp
  rw [List.length_append, c1, c2] at hsl
  have hl1 : (a : Int) + (k : Int) * (W : Int) = ((a + k * W : Nat) : Int) := by simp
  have hl2 : (a : Int) + ((k : Int) + 1) * (W : Int) = ((a + (k + 1) * W : Nat) : Int) := by simp
  rw [hl1, hl2]
  have hck : chkV X'.ws (X'.ks.length : Int) = 0 := by
    have n1 := F.i1.o.n1
    have := chkV_in (ws := X'.ws) n1
    rw [this, if_pos (mayB_iff.2 ⟨F.i1.o.w, F.i1.o.z⟩)]
  have hin : Occ.inB (X'.ks.length : Int) ((a + k * W : Nat) : Int) ((a + (k + 1) * W : Nat) : Int) = true := Occ.inB_iff.2 ⟨by omega, by omega, by omega⟩
  have hav : askV X'.ws (X'.ks.length : Int) true = 0 := by unfold askV; rw [if_pos hck]; rfl
  unfold cntV
  rw [hin, if_pos hav, Int.toNat_natCast, show (((a + (k + 1) * W : Nat) : Int) - ((a + k * W : Nat) : Int)).toNat = W by omega]
  have : (occs X'.ws (a + k * W) W).length = Spr.shareN ps.length P k := by
    unfold Spr.shareN
    by_cases hW : W = 0
    · subst hW
      have hz : ps.length = 0 := by rw [Nat.mul_zero] at hq; omega
      rw [hz] at hsl ⊢
      have := occs_length X'.ws (a + k * 0) 0
      simp only [Nat.mul_zero, Nat.sub_self] at this ⊢; omega
    · have p1 := Spr.cnt_part ps.length P W k (by omega) (by omega) (by omega)
      have p2 := Spr.cnt_part ps.length P W (k + 1) (by omega) (by omega) (by omega)
      rw [hq] at p1 p2
      rw [p1, p2] at hsl
      omega
  rw [this]
  simp
/-- The same, in numbers. -/
theorem share_nat {s X : Sl} {f t p k : Int} (hu : U64 s.ws) (hl : 0 ≤ s.laid ∧ s.laid < 18446744073709551616) (h : evenSV s f t = (X, 0)) (hs : (Spr.shareV (prsV s f t).1.length f t p k).2 = 0) :
    ∃ a b P K q : Nat, f = a ∧ t = b ∧ p = P ∧ k = K ∧ a ≤ b ∧ b ≤ 65536 ∧ 1 ≤ P ∧ K < P ∧ ((b : Int) - (a : Int)) / (P : Int) = (q : Int) ∧ 0 ≤ (K : Int) * (q : Int) ∧ (K : Int) * (q : Int) ≤ 65536 ∧ 0 ≤ ((K : Int) + 1) * (q : Int) ∧ ((K : Int) + 1) * (q : Int) ≤ 65536 ∧ (q : Int) ≤ 65536 ∧
      cntV X.ws X.ks.length ((a : Int) + (K : Int) * (q : Int)) ((a : Int) + ((K : Int) + 1) * (q : Int)) = ((Spr.shareV (prsV s f t).1.length f t p k).1, 0) := by
  obtain ⟨h1, h2, h3, h0, hc⟩ := even_share hu hl h hs
  have hask : Spr.askB (prsV s f t).1.length f t p k = true := by
    cases e : Spr.askB (prsV s f t).1.length f t p k
    · unfold Spr.shareV at hs; rw [e] at hs; simp at hs
    · rfl
  obtain ⟨hm, -, a2, -, -⟩ := Spr.askB_iff.1 hask
  obtain ⟨m1, m2, m3, m4, m5⟩ := Spr.mayB_iff.1 hm
  clear hs h hm hask
  generalize (Spr.shareV (prsV s f t).1.length f t p k).1 = m at *
  obtain ⟨a, rfl⟩ := Int.eq_ofNat_of_zero_le m1
  obtain ⟨b, rfl⟩ := Int.eq_ofNat_of_zero_le (show 0 ≤ t by omega)
  obtain ⟨P, rfl⟩ := Int.eq_ofNat_of_zero_le (show 0 ≤ p by omega)
  obtain ⟨K, rfl⟩ := Int.eq_ofNat_of_zero_le h2
  obtain ⟨q, hq⟩ := Int.dvd_of_emod_eq_zero a2
  have hP : (0 : Int) < (P : Int) := by omega
  have hdq : ((b : Int) - (a : Int)) / (P : Int) = q := by rw [hq]; exact Int.mul_ediv_cancel_left _ (by omega)
  have hq0 : 0 ≤ q := by rw [← hdq]; exact Int.ediv_nonneg (by omega) (by omega)
  obtain ⟨q, rfl⟩ := Int.eq_ofNat_of_zero_le hq0
  rw [hdq] at hc
  have hN : b - a = P * q := by
    have : ((P * q : Nat) : Int) = (P : Int) * (q : Int) := by simp
    omega
  have k1 : (K + 1) * q ≤ P * q := Nat.mul_le_mul_right q (by omega)
  have k0 : K * q ≤ (K + 1) * q := Nat.mul_le_mul_right q (by omega)
  have kq : 1 * q ≤ P * q := Nat.mul_le_mul_right q (by omega)
  have c0 : (K : Int) * (q : Int) = ((K * q : Nat) : Int) := by simp
  have c1 : ((K : Int) + 1) * (q : Int) = (((K + 1) * q : Nat) : Int) := by simp
  refine ⟨a, b, P, K, q, rfl, rfl, rfl, rfl, by omega, by omega, by omega, by omega, hdq, by omega, by omega, by omega, by omega, by omega, hc⟩
/-- Over another size. -/
theorem into_kept {s : Sl} {n : Int} {ps : List (Int × Int)} (W : s.Wf) (h : (intoSV s n ps).2 = 0) :
    ∃ Z, intoSV s n ps = (Z, 0) ∧ Z.Wf ∧ prsV Z 0 n = (ps, 0) ∧ Z.laid = IntKind.u64.wrap (s.laid + ps.length) ∧ Z.seg = s.seg ∧ (Z.ks.length : Int) = n := by
  unfold intoSV at h ⊢
  by_cases h1 : chkS s ≠ 0
  · rw [if_pos h1] at h; exact absurd h h1
  rw [if_neg h1] at h ⊢
  by_cases h2 : fitsB s.seg n = false ∨ n < ps.length
  · rw [if_pos h2] at h; simp at h
  rw [if_neg h2]
  have hf : fitsB s.seg n = true := by cases e : fitsB s.seg n with
    | true => rfl
    | false => exact absurd (.inl e) h2
  have K := wide_k W hf
  have hl := K.len
  have hlen : ¬ (n < ps.length) := fun e => h2 (.inr e)
  have ha : askS (wideV s n) (inB (wideV s n).ks.length 0 n) = 0 := by rw [show inB ((wideV s n).ks.length : Int) 0 n = true from inB_iff.2 ⟨by omega, by omega, by omega⟩]; exact askS_in K.ok
  have T := spread_kept (ps := ps) (K.wf.u) K.wf.laid ha (by omega)
  refine ⟨_, rfl, T.wx, T.pin, T.laid, ?_, ?_⟩
  · obtain ⟨g, q, F⟩ := spread_facts (f := 0) (t := n.toNat) (ps := ps) K.wf.u K.wf.laid K.ok (by omega) (by omega) (by omega)
    have x := F.i1.o.seg
    have y := F.i0.o.seg
    obtain ⟨f1, f2, f3, f4, f5, f6, f7⟩ := fitsB_iff.1 hf
    have z : (wideV s n).seg = ((s.seg.toNat : Nat) : Int) := rfl
    rw [x, ← y, z]; omega
  · have := T.lk
    show ((spreadV (wideV s n) (0 : Int).toNat n.toNat ps).ks.length : Int) = n
    rw [this]; exact hl
theorem into_no {s : Sl} {n : Int} {ps : List (Int × Int)} (h : (intoSV s n ps).2 ≠ 0) : (intoSV s n ps).1 = noneS := by
  unfold intoSV at *
  by_cases h1 : chkS s ≠ 0
  · rw [if_pos h1]
  rw [if_neg h1] at h ⊢
  by_cases h2 : fitsB s.seg n = false ∨ n < ps.length
  · rw [if_pos h2]
  · rw [if_neg h2] at h; exact absurd rfl h
end Go.Proofs.Ytfokbkkgokioeaa.Lay

namespace Go.Proofs.Ytfokbkkgokioeaa.Lay
open Go.RowKit Go.Shelf Go.Sort Go.Proofs.Ytfokbkkgokioeaa Go.Proofs.Ytfokbkkgokioeaa.Occ Go.Proofs.Ytfokbkkgokioeaa.Slo
attribute [local go_sem] sval Oper.semAt_some

set_option maxRecDepth 100000 in
set_option maxHeartbeats 16000000 in
theorem layKeeps (x : In) (f t k : Int) (p : Pr) (w : World) (wx : x.Ok w) (wf : (Lit.int .i64 f).wf = true) (wt : (Lit.int .i64 t).wf = true) (wk : (Lit.int .i64 k).wf = true) (wp : p.Ok) :
    Calls Try.prog 5 #[x.val, .agg #[.int .i64 f, .int .i64 t], .int .i64 k, p.val] w fun e w' => e = .returned (.bool true) ∧ Below w.heap.size w w' := by
  obtain ⟨s, h, e1, S⟩ := wx.open
  obtain ⟨px, py⟩ := p
  rw [e1]
  unfold Pr.val
  dsimp only
  have HS := Lib.hid S
  clear S e1 wx wf wt wk wp x
  have HG1 := Lib.hid (fun w1 => Great_any s h 300 w1)
  have HAL := Lib.hid alive_any
  have E0 := Lib.hid ((((((St.below' (in2P_below w s h f t px py))).and (St.rd (HS.out.rd.next (in2P_below w s h f t px py)))).and (St.bs (in2P_bs w s h f t px py))).and (St.bp (in2P_bt w s h f t px py))).and (St.bp (in2P_bp w s h f t px py)))
  cases hg1 : greatB s 300
  case true =>
    rw [hg1] at HG1
    clear hg1
    go_enter Try.func5, Try.ntmps5
    go_wp2_with fail
    rw [allocS_fold, alloc2_fold, allocP_fold, show allocP (alloc2 (allocS w s h) _ _) px py = in2P w s h _ _ px py from rfl]
    refine (HAL.out _).mono ?_
    rintro e w1 ⟨rfl, hb⟩
    have E1 := Lib.hid (E0.out.next hb)
    clear hb
    obtain ⟨-, -, ⟨⟨bs_0, bs_1, bs_2, bs_3, bs_4, bs_5, -⟩, bs_l⟩, -, -⟩ := E1.out.now
    go_wp2_with fail
    refine (HG1.out _).mono ?_
    rintro e w2 ⟨rfl, hb⟩
    clear bs_0 bs_1 bs_2 bs_3 bs_4 bs_5 bs_l
    have E2 := Lib.hid (E1.out.next hb)
    clear hb
    go_wp2
    go_ret
    exact ⟨rfl, E2.out.now.2.2.2.2⟩
  rw [hg1] at HG1
  have hls := greatB_no (m := 300) hg1
  obtain ⟨hl1, hl2, hl3, hl4⟩ := hls
  have HW := Lib.hid (HS.out.wf ⟨by omega, by omega, by omega, by omega⟩)
  clear hg1 hl1 hl2 hl3 hl4
  have HP0 := Lib.hid (fun w1 (R : SRd w1 s h) => sPairs_any s h 0 s.ks.length w1 HW.out R)
  have HP1 := Lib.hid (fun w1 (R : SRd w1 s h) => sPairs_any s h f t w1 HW.out R)
  have HX := Lib.hid (fun w1 (R : SRd w1 s h) => Even_any s h f t w1 HW.out R)
  have HLA : Hid ((prsV s 0 s.ks.length).1.length ≤ 65536) := Lib.hid (prsV_small _ _ _)
  have HLP : Hid ((prsV s f t).1.length ≤ 65536) := Lib.hid (prsV_small _ _ _)
  by_cases hz : (prsV s f t).2 = 0
  · obtain ⟨X, eX, K, hall, h0⟩ := even_kept HS.out.u HS.out.laid hz
    rw [eX] at HX
    have HPX0 := Lib.hid (fun h1 w1 (R : SRd w1 X h1) => sPairs_any X h1 0 X.ks.length w1 K.wx R)
    rw [hall] at HPX0
    have HPX1 := Lib.hid (fun h1 w1 (R : SRd w1 X h1) => sPairs_any X h1 f t w1 K.wx R)
    rw [K.pin] at HPX1
    have hlx : (X.laid != IntKind.u64.wrap (s.laid + IntKind.u64.wrap ((prsV s f t).1.length : Int))) = false := by rw [K.laid, show IntKind.u64.wrap ((prsV s f t).1.length : Int) = ((prsV s f t).1.length : Int) by rw [IntKind.wrap_u64]; have := HLP.out; omega]; simp
    have HWV := Lib.hid (fun w1 (R : SRd w1 s h) => lWith_any s h f t k px py w1 HW.out R)
    clear hall eX K
    by_cases hw : (withSV s f t k px py).2 = 0
    · obtain ⟨Y, eY, k0, k1, KY⟩ := with_kept HS.out.u HS.out.laid hw
      rw [eY] at HWV
      clear eY hw
      obtain ⟨k, rfl⟩ := Int.eq_ofNat_of_zero_le k0
      rw [Int.toNat_natCast] at KY
      have kl : k ≤ (prsV s f t).1.length := by omega
      obtain ⟨t1, t2, t3⟩ := among_take (prsV s f t).1 k px py kl
      have hln := amongV_length (prsV s f t).1 k px py kl
      have HPY1 := Lib.hid (fun h1 w1 (R : SRd w1 Y h1) => sPairs_any Y h1 f t w1 KY.wx R)
      rw [KY.pin] at HPY1
      have HPY0 := Lib.hid (fun h1 w1 (R : SRd w1 Y h1) => sPairs_any Y h1 0 f w1 KY.wx R)
      rw [KY.pa.1] at HPY0
      have HPF := Lib.hid (fun w1 (R : SRd w1 s h) => sPairs_any s h 0 f w1 HW.out R)
      have hf0 := KY.pa.2
      have HLF : Hid ((prsV s 0 f).1.length ≤ 65536) := Lib.hid (prsV_small _ _ _)
      have hly : (Y.laid != IntKind.u64.wrap (s.laid + IntKind.u64.wrap ((amongV (prsV s f t).1 k px py).length : Int))) = false := by rw [KY.laid, show IntKind.u64.wrap ((amongV (prsV s f t).1 k px py).length : Int) = ((amongV (prsV s f t).1 k px py).length : Int) by rw [IntKind.wrap_u64]; have := HLP.out; omega]; simp
      clear KY k0 k1
      generalize amongV (prsV s f t).1 k px py = AM at *
      generalize prsV s 0 f = VF at *
      obtain ⟨LF, ef⟩ := VF
      generalize prsV s f t = V at *
      obtain ⟨PL, e⟩ := V
      generalize prsV s 0 s.ks.length = V0 at *
      obtain ⟨LA, e0⟩ := V0
      dsimp only at *
      subst hz
      subst h0
      subst hf0
      have HT1 := Lib.hid t1
      have HT2 := Lib.hid t2
      have HT3 := Lib.hid t3
      have HLN := Lib.hid hln
      have HKL := Lib.hid kl
      clear t1 t2 t3 hln
      have HSA := Lib.hid (fun a b ca cb w1 R1 R2 => samePairs_any a b ca cb LA LA w1 R1 R2 (by have := HLA.out; omega) (by have := HLA.out; omega))
      rw [show decide (LA = LA) = true by simp] at HSA
      have HSP := Lib.hid (fun a b ca cb w1 R1 R2 => samePairs_any a b ca cb PL PL w1 R1 R2 (by have := HLP.out; omega) (by have := HLP.out; omega))
      rw [show decide (PL = PL) = true by simp] at HSP
      go_enter Try.func5, Try.ntmps5
      go_wp2_with fail
      rw [allocS_fold, alloc2_fold, allocP_fold, show allocP (alloc2 (allocS w s h) _ _) px py = in2P w s h _ _ px py from rfl]
      refine (HAL.out _).mono ?_
      rintro e w1 ⟨rfl, hb⟩
      have E1 := Lib.hid (E0.out.next hb)
      clear hb
      obtain ⟨-, -, ⟨⟨bs_0, bs_1, bs_2, bs_3, bs_4, bs_5, -⟩, bs_l⟩, -, -⟩ := E1.out.now
      go_wp2_with fail
      refine (HG1.out _).mono ?_
      rintro e w2 ⟨rfl, hb⟩
      clear bs_0 bs_1 bs_2 bs_3 bs_4 bs_5 bs_l
      have E2 := Lib.hid (E1.out.next hb)
      clear hb
      obtain ⟨-, -, ⟨⟨bs_0, bs_1, bs_2, bs_3, bs_4, bs_5, -⟩, bs_l⟩, -, -⟩ := E2.out.now
      go_wp2_with fail
      clear bs_0 bs_1 bs_2 bs_3 bs_4 bs_5 bs_l
      refine (HP0.out _ E2.out.now.2.2.2.1).mono ?_
      rintro e w3 ⟨v, rfl, ho, hb⟩
      obtain ⟨a0, c0, rfl, -, hr2, hc0, -⟩ := owns2_arg ho
      clear ho
      have E3 := Lib.hid ((E2.out.next hb).and (St.rd2 hr2))
      clear hb
      obtain ⟨-, -, ⟨⟨bt_0, bt_1, -⟩, bt_l⟩, ⟨⟨bs_0, bs_1, bs_2, bs_3, bs_4, bs_5, -⟩, bs_l⟩, -, -⟩ := E3.out.now
      go_wp2_with fail
      clear bs_0 bs_1 bs_2 bs_3 bs_4 bs_5 bs_l bt_0 bt_1 bt_l
      refine (HP1.out _ E3.out.now.2.2.2.2.1).mono ?_
      rintro e w4 ⟨v, rfl, ho, hb⟩
      obtain ⟨a1, c1, rfl, -, hr2, hc1, -⟩ := owns2_arg ho
      clear ho
      have E4 := Lib.hid ((E3.out.next hb).and (St.rd2 hr2))
      clear hb
      obtain ⟨-, -, -, ⟨⟨bt_0, bt_1, -⟩, bt_l⟩, ⟨⟨bs_0, bs_1, bs_2, bs_3, bs_4, bs_5, -⟩, bs_l⟩, -, -⟩ := E4.out.now
      go_wp2_with fail
      clear bs_0 bs_1 bs_2 bs_3 bs_4 bs_5 bs_l bt_0 bt_1 bt_l
      refine (HX.out _ E4.out.now.2.2.2.2.2.1).mono ?_
      rintro e w5 ⟨h1, rfl, ho, hb⟩
      have E5 := Lib.hid ((E4.out.next hb).and (St.own ho))
      clear hb
      clear ho
      go_wp2_with fail
      rw [allocS_fold]
      have E6 := Lib.hid ((E5.out.next (allocS_below w5 X h1)).and (St.bs (allocS_bs w5 X h1)))
      generalize allocS w5 X h1 = w6 at *
      refine (HPX0.out h1 _ (SOwn.rd E6.out.now.2.1)).mono ?_
      rintro e w7 ⟨v, rfl, ho, hb⟩
      obtain ⟨a2, c2, rfl, -, hr2, hc2, -⟩ := owns2_arg ho
      clear ho
      have E7 := Lib.hid ((E6.out.next hb).and (St.rd2 hr2))
      clear hb
      obtain ⟨-, ⟨⟨bx_0, bx_1, bx_2, bx_3, bx_4, bx_5, -⟩, bx_l⟩, -, -, -, -, ⟨⟨bt_0, bt_1, -⟩, bt_l⟩, -, -, -⟩ := E7.out.now
      go_wp2_with fail
      clear bx_0 bx_1 bx_2 bx_3 bx_4 bx_5 bx_l bt_0 bt_1 bt_l
      refine (HPX1.out h1 _ (SOwn.rd E7.out.now.2.2.1)).mono ?_
      rintro e w8 ⟨v, rfl, ho, hb⟩
      obtain ⟨a3, c3, rfl, -, hr2, hc3, -⟩ := owns2_arg ho
      clear ho
      have E8 := Lib.hid ((E7.out.next hb).and (St.rd2 hr2))
      clear hb
      go_wp2_with fail
      refine (HSA.out a2 a0 c2 c0 _ E8.out.now.2.1 E8.out.now.2.2.2.2.2.1).mono ?_
      rintro e w9 ⟨rfl, hb⟩
      have E9 := Lib.hid (E8.out.next hb)
      clear hb
      go_wp2_with fail
      refine (HSP.out a3 a1 c3 c1 _ E9.out.now.1 E9.out.now.2.2.2.2.1).mono ?_
      rintro e w10 ⟨rfl, hb⟩
      have E10 := Lib.hid (E9.out.next hb)
      clear hb
      obtain ⟨-, -, ⟨⟨bx_0, bx_1, bx_2, bx_3, bx_4, bx_5, -⟩, bx_l⟩, -, -, -, ⟨⟨bp_0, bp_1, -⟩, bp_l⟩, ⟨⟨bt_0, bt_1, -⟩, bt_l⟩, ⟨⟨bs_0, bs_1, bs_2, bs_3, bs_4, bs_5, -⟩, bs_l⟩, -, -⟩ := E10.out.now
      go_wp2_with fail
      clear bx_0 bx_1 bx_2 bx_3 bx_4 bx_5 bx_l bs_0 bs_1 bs_2 bs_3 bs_4 bs_5 bs_l bt_0 bt_1 bt_l bp_0 bp_1 bp_l
      refine (HWV.out _ E10.out.now.2.2.2.2.2.2.2.2.2.1).mono ?_
      rintro e w11 ⟨h2, rfl, ho, hb⟩
      have E11 := Lib.hid ((E10.out.next hb).and (St.own ho))
      clear hb
      clear ho
      obtain ⟨-, -, -, -, -, -, -, -, ⟨⟨bt_0, bt_1, -⟩, bt_l⟩, -, -, -⟩ := E11.out.now
      go_wp2_with fail
      clear bt_0 bt_1 bt_l
      rw [allocS_fold]
      have E12 := Lib.hid ((E11.out.next (allocS_below w11 Y h2)).and (St.bs (allocS_bs w11 Y h2)))
      generalize allocS w11 Y h2 = w12 at *
      refine (HPY1.out h2 _ (SOwn.rd E12.out.now.2.1)).mono ?_
      rintro e w13 ⟨v, rfl, ho, hb⟩
      obtain ⟨a4, c4, rfl, -, hr2, hc4, -⟩ := owns2_arg ho
      clear ho
      have E13 := Lib.hid ((E12.out.next hb).and (St.rd2 hr2))
      clear hb
      obtain ⟨-, ⟨⟨by_0, by_1, by_2, by_3, by_4, by_5, -⟩, by_l⟩, -, -, -, -, -, -, -, -, ⟨⟨bt_0, bt_1, -⟩, bt_l⟩, -, -, -⟩ := E13.out.now
      go_wp2_with fail
      clear by_0 by_1 by_2 by_3 by_4 by_5 by_l bt_0 bt_1 bt_l
      refine (HPY0.out h2 _ (SOwn.rd E13.out.now.2.2.1)).mono ?_
      rintro e w14 ⟨v, rfl, ho, hb⟩
      obtain ⟨a5, c5, rfl, -, hr2, hc5, -⟩ := owns2_arg ho
      clear ho
      have E14 := Lib.hid ((E13.out.next hb).and (St.rd2 hr2))
      clear hb
      obtain ⟨-, -, -, -, -, -, -, -, -, -, -, ⟨⟨bt_0, bt_1, -⟩, bt_l⟩, ⟨⟨bs_0, bs_1, bs_2, bs_3, bs_4, bs_5, -⟩, bs_l⟩, -, -⟩ := E14.out.now
      go_wp2_with fail
      clear bs_0 bs_1 bs_2 bs_3 bs_4 bs_5 bs_l bt_0 bt_1 bt_l
      refine (HPF.out _ E14.out.now.2.2.2.2.2.2.2.2.2.2.2.2.2.1).mono ?_
      rintro e w15 ⟨v, rfl, ho, hb⟩
      obtain ⟨a6, c6, rfl, -, hr2, hc6, -⟩ := owns2_arg ho
      clear ho
      have E15 := Lib.hid ((E14.out.next hb).and (St.rd2 hr2))
      clear hb
      clear HPY1 HPY0 HPF HWV HPX0 HPX1 HX HP0 HP1 HSA HSP HG1 HAL
      have hak : k < AM.length := by have := HLN.out; have := HKL.out; omega
      obtain ⟨ba, oa, rfl, -, -⟩ := Rd2.at E15.out.now.2.2.1 (Below.refl _ _) (Nat.le_refl _) hak
      have HRD := Lib.hid (fun W (R : Rd2 W (some ⟨ba, oa, Option.none⟩) AM) => Rd2.at R (Below.refl _ _) (Nat.le_refl _) hak)
      rw [HT3.out] at HRD
      have hkk := HKL.out
      have hlp := HLP.out
      have hln := HLN.out
      have w1k : IntKind.i64.wrap ((PL.length : Int) + 1) = (AM.length : Int) := by rw [IntKind.wrap_i64]; omega
      have w2k : IntKind.i64.wrap ((k : Int) + 1) = ((k + 1 : Nat) : Int) := by rw [IntKind.wrap_i64]; omega
      have nk1 : ¬ ((PL.length : Int) < (k : Int)) := by omega
      have nk2 : ¬ ((k : Int) < 0) := by omega
      have nk3 : ((k : Int) < (AM.length : Int)) := by omega
      have d1 : decide ((k : Int) < 0) = false := by simp
      have d2 : decide ((PL.length : Int) < (k : Int)) = false := by simpa using hkk
      have d3 : decide (PL.length < k) = false := by simpa using hkk
      have d4 : ((AM.length : Int) != (AM.length : Int)) = false := by simp
      have hly2 : (Y.laid != IntKind.u64.wrap (s.laid + (AM.length : Int))) = false := by have e : IntKind.u64.wrap (AM.length : Int) = (AM.length : Int) := (by rw [IntKind.wrap_u64]; omega); rwa [e] at hly
      clear hln
      have hgd : Try.prog.eqGuardType Try.prog.depth 42 = false := by kernel_rfl
      have hq : ∀ w : World, (Op.equalIn 10000 42 (.agg #[.int .i64 px, .int .i64 py]) (.agg #[.int .i64 px, .int .i64 py])).run Try.prog w = .ok true w := fun w => by rw [run_equal_pair]; simp
      go_wp2_with fail
      refine region_qb' w15 w15.heap.size (Below.refl _ _) mixed' (by kernel_rfl) fun w16 hB hz => ?_
      have E16 := Lib.hid (E15.out.next hB)
      clear hB hz
      have EC := Lib.hid (fun d os => E16.out.next (below_regrown w16 d os))
      obtain ⟨-, -, -, ⟨⟨by_0, by_1, by_2, by_3, by_4, by_5, -⟩, by_l⟩, -, -, -, -, -, -, -, ⟨⟨bp_0, bp_1, -⟩, bp_l⟩, -, ⟨⟨bs_0, bs_1, bs_2, bs_3, bs_4, bs_5, -⟩, bs_l⟩, -, -⟩ := E16.out.now
      obtain ⟨bv, ov, e4, ce, cf⟩ := HRD.out _ E16.out.now.2.2.1
      cases e4
      have qby_0 := cell_regrown by_0
      have qby_1 := cell_regrown by_1
      have qby_2 := cell_regrown by_2
      have qby_3 := cell_regrown by_3
      have qby_4 := cell_regrown by_4
      have qby_5 := cell_regrown by_5
      have qbs_0 := cell_regrown bs_0
      have qbs_1 := cell_regrown bs_1
      have qbs_2 := cell_regrown bs_2
      have qbs_3 := cell_regrown bs_3
      have qbs_4 := cell_regrown bs_4
      have qbs_5 := cell_regrown bs_5
      have qbp_0 := cell_regrown bp_0
      have qbp_1 := cell_regrown bp_1
      have qce := cell_regrown ce
      have qcf := cell_regrown cf
      clear by_0 by_1 by_2 by_3 by_4 by_5 by_l bs_0 bs_1 bs_2 bs_3 bs_4 bs_5 bs_l bp_0 bp_1 bp_l
      clear ce cf
      repeat (go_big_quiet_step (fail))
      refine wpQuiet_nil ?_
      rintro _ ⟨⟨dq, osq⟩, rfl⟩
      have E17 := Lib.hid (EC.out dq osq)
      generalize grow (redrawn w16 dq) osq = w17 at *
      clear EC qby_0 qby_1 qby_2 qby_3 qby_4 qby_5 qbs_0 qbs_1 qbs_2 qbs_3 qbs_4 qbs_5 qbp_0 qbp_1 qce qcf
      go_wp2_with fail
      have HSF := Lib.hid (fun a b ca cb w1 R1 R2 => samePairs_any a b ca cb LF LF w1 R1 R2 (by have := HLF.out; omega) (by have := HLF.out; omega))
      rw [show decide (LF = LF) = true by simp] at HSF
      have hcm1 : k ≤ c4 := by omega
      have hcm2 : k + 1 ≤ c4 := by omega
      have hcm3 : k ≤ c1 := by omega
      have HSK : Hid (∀ a b ca cb w1, Rd2 w1 a (AM.take k) → Rd2 w1 b (PL.take k) → Calls Try.prog 15 #[.slice a k ca, .slice b k cb] w1 fun e w' => e = .returned (.bool true) ∧ Below w1.heap.size w1 w') := Lib.hid (fun a b ca cb w1 R1 R2 => by
        have l1 : (AM.take k).length = k := by rw [List.length_take]; omega
        have l2 : (PL.take k).length = k := by rw [List.length_take]; omega
        have := samePairs_any a b ca cb _ _ w1 R1 R2 (by omega) (by omega)
        rw [l1, l2, show decide (AM.take k = PL.take k) = true by rw [HT1.out]; simp] at this
        exact this)
      have HSD : Hid (∀ a b ca cb w1, Rd2 w1 a (AM.drop (k + 1)) → Rd2 w1 b (PL.drop k) → Calls Try.prog 15 #[.slice a (AM.length - (k + 1)) ca, .slice b (PL.length - k) cb] w1 fun e w' => e = .returned (.bool true) ∧ Below w1.heap.size w1 w') := Lib.hid (fun a b ca cb w1 R1 R2 => by
        have l1 : (AM.drop (k + 1)).length = AM.length - (k + 1) := by rw [List.length_drop]
        have l2 : (PL.drop k).length = PL.length - k := by rw [List.length_drop]
        have := samePairs_any a b ca cb _ _ w1 R1 R2 (by have := HLN.out; omega) (by omega)
        rw [l1, l2, show decide (AM.drop (k + 1) = PL.drop k) = true by rw [HT2.out]; simp] at this
        exact this)
      refine region_qb' w17 w17.heap.size (Below.refl _ _) mixed' (by kernel_rfl) fun w18 hB hz => ?_
      have E18 := Lib.hid (E17.out.next hB)
      clear hB hz
      have EC := Lib.hid (fun d os => E18.out.next (below_regrown w18 d os))
      repeat (go_big_quiet_step (fail))
      go_big_quiet_step (exact Calls.regrown_of (HSF.out a5 a6 c5 c6 _ (EC.out _ _).now.2.1 (EC.out _ _).now.1))
      repeat (go_big_quiet_step (fail))
      go_big_quiet_step (exact Calls.regrown_of (HSK.out _ a1 c4 c1 _ (rd2_take (EC.out _ _).now.2.2.1 k) (rd2_take (EC.out _ _).now.2.2.2.2.2.2.2.2.2.1 k)))
      repeat (go_big_quiet_step (fail))
      go_big_quiet_step (exact Calls.regrown_of (HSD.out (if c4 = k + 1 then some ⟨ba, oa, Option.none⟩ else some ⟨ba, oa + (k + 1) * 2, Option.none⟩) (if c1 = k then a1 else a1.map (fun x => x.add (k * 2))) (c4 - (k + 1)) (c1 - k) _ (rd2_drop (EC.out _ _).now.2.2.1 hc4) (rd2_drop (EC.out _ _).now.2.2.2.2.2.2.2.2.2.1 hc1)))
      repeat (go_big_quiet_step (fail))
      refine wpQuiet_nil ?_
      rintro _ ⟨⟨dq, osq⟩, rfl⟩
      have E19 := Lib.hid (EC.out dq osq)
      generalize grow (redrawn w18 dq) osq = w19 at *
      clear EC 
      go_wp2_with fail
      all_goals (go_ret; exact ⟨by simp, E19.out.now.2.2.2.2.2.2.2.2.2.2.2.2.2.2.2⟩)
    · have HN : Hid ((withSV s f t k px py).1.ks.length = 0) := Lib.hid (by rw [with_no hw]; rfl)
      generalize withSV s f t k px py = VY at *
      obtain ⟨Y, j⟩ := VY
      generalize prsV s f t = V at *
      obtain ⟨PL, e⟩ := V
      generalize prsV s 0 s.ks.length = V0 at *
      obtain ⟨LA, e0⟩ := V0
      dsimp only at *
      subst hz
      subst h0
      have hj : (j != 0) = true := by rw [bne_iff_ne]; exact hw
      clear hw
      have HSA := Lib.hid (fun a b ca cb w1 R1 R2 => samePairs_any a b ca cb LA LA w1 R1 R2 (by have := HLA.out; omega) (by have := HLA.out; omega))
      rw [show decide (LA = LA) = true by simp] at HSA
      have HSP := Lib.hid (fun a b ca cb w1 R1 R2 => samePairs_any a b ca cb PL PL w1 R1 R2 (by have := HLP.out; omega) (by have := HLP.out; omega))
      rw [show decide (PL = PL) = true by simp] at HSP
      go_enter Try.func5, Try.ntmps5
      go_wp2_with fail
      rw [allocS_fold, alloc2_fold, allocP_fold, show allocP (alloc2 (allocS w s h) _ _) px py = in2P w s h _ _ px py from rfl]
      refine (HAL.out _).mono ?_
      rintro e w1 ⟨rfl, hb⟩
      have E1 := Lib.hid (E0.out.next hb)
      clear hb
      obtain ⟨-, -, ⟨⟨bs_0, bs_1, bs_2, bs_3, bs_4, bs_5, -⟩, bs_l⟩, -, -⟩ := E1.out.now
      go_wp2_with fail
      refine (HG1.out _).mono ?_
      rintro e w2 ⟨rfl, hb⟩
      clear bs_0 bs_1 bs_2 bs_3 bs_4 bs_5 bs_l
      have E2 := Lib.hid (E1.out.next hb)
      clear hb
      obtain ⟨-, -, ⟨⟨bs_0, bs_1, bs_2, bs_3, bs_4, bs_5, -⟩, bs_l⟩, -, -⟩ := E2.out.now
      go_wp2_with fail
      clear bs_0 bs_1 bs_2 bs_3 bs_4 bs_5 bs_l
      refine (HP0.out _ E2.out.now.2.2.2.1).mono ?_
      rintro e w3 ⟨v, rfl, ho, hb⟩
      obtain ⟨a0, c0, rfl, -, hr2, hc0, -⟩ := owns2_arg ho
      clear ho
      have E3 := Lib.hid ((E2.out.next hb).and (St.rd2 hr2))
      clear hb
      obtain ⟨-, -, ⟨⟨bt_0, bt_1, -⟩, bt_l⟩, ⟨⟨bs_0, bs_1, bs_2, bs_3, bs_4, bs_5, -⟩, bs_l⟩, -, -⟩ := E3.out.now
      go_wp2_with fail
      clear bs_0 bs_1 bs_2 bs_3 bs_4 bs_5 bs_l bt_0 bt_1 bt_l
      refine (HP1.out _ E3.out.now.2.2.2.2.1).mono ?_
      rintro e w4 ⟨v, rfl, ho, hb⟩
      obtain ⟨a1, c1, rfl, -, hr2, hc1, -⟩ := owns2_arg ho
      clear ho
      have E4 := Lib.hid ((E3.out.next hb).and (St.rd2 hr2))
      clear hb
      obtain ⟨-, -, -, ⟨⟨bt_0, bt_1, -⟩, bt_l⟩, ⟨⟨bs_0, bs_1, bs_2, bs_3, bs_4, bs_5, -⟩, bs_l⟩, -, -⟩ := E4.out.now
      go_wp2_with fail
      clear bs_0 bs_1 bs_2 bs_3 bs_4 bs_5 bs_l bt_0 bt_1 bt_l
      refine (HX.out _ E4.out.now.2.2.2.2.2.1).mono ?_
      rintro e w5 ⟨h1, rfl, ho, hb⟩
      have E5 := Lib.hid ((E4.out.next hb).and (St.own ho))
      clear hb
      clear ho
      go_wp2_with fail
      rw [allocS_fold]
      have E6 := Lib.hid ((E5.out.next (allocS_below w5 X h1)).and (St.bs (allocS_bs w5 X h1)))
      generalize allocS w5 X h1 = w6 at *
      refine (HPX0.out h1 _ (SOwn.rd E6.out.now.2.1)).mono ?_
      rintro e w7 ⟨v, rfl, ho, hb⟩
      obtain ⟨a2, c2, rfl, -, hr2, hc2, -⟩ := owns2_arg ho
      clear ho
      have E7 := Lib.hid ((E6.out.next hb).and (St.rd2 hr2))
      clear hb
      obtain ⟨-, ⟨⟨bx_0, bx_1, bx_2, bx_3, bx_4, bx_5, -⟩, bx_l⟩, -, -, -, -, ⟨⟨bt_0, bt_1, -⟩, bt_l⟩, -, -, -⟩ := E7.out.now
      go_wp2_with fail
      clear bx_0 bx_1 bx_2 bx_3 bx_4 bx_5 bx_l bt_0 bt_1 bt_l
      refine (HPX1.out h1 _ (SOwn.rd E7.out.now.2.2.1)).mono ?_
      rintro e w8 ⟨v, rfl, ho, hb⟩
      obtain ⟨a3, c3, rfl, -, hr2, hc3, -⟩ := owns2_arg ho
      clear ho
      have E8 := Lib.hid ((E7.out.next hb).and (St.rd2 hr2))
      clear hb
      go_wp2_with fail
      refine (HSA.out a2 a0 c2 c0 _ E8.out.now.2.1 E8.out.now.2.2.2.2.2.1).mono ?_
      rintro e w9 ⟨rfl, hb⟩
      have E9 := Lib.hid (E8.out.next hb)
      clear hb
      go_wp2_with fail
      refine (HSP.out a3 a1 c3 c1 _ E9.out.now.1 E9.out.now.2.2.2.2.1).mono ?_
      rintro e w10 ⟨rfl, hb⟩
      have E10 := Lib.hid (E9.out.next hb)
      clear hb
      obtain ⟨-, -, ⟨⟨bx_0, bx_1, bx_2, bx_3, bx_4, bx_5, -⟩, bx_l⟩, -, -, -, ⟨⟨bp_0, bp_1, -⟩, bp_l⟩, ⟨⟨bt_0, bt_1, -⟩, bt_l⟩, ⟨⟨bs_0, bs_1, bs_2, bs_3, bs_4, bs_5, -⟩, bs_l⟩, -, -⟩ := E10.out.now
      go_wp2_with fail
      clear bx_0 bx_1 bx_2 bx_3 bx_4 bx_5 bx_l bs_0 bs_1 bs_2 bs_3 bs_4 bs_5 bs_l bt_0 bt_1 bt_l bp_0 bp_1 bp_l
      refine (HWV.out _ E10.out.now.2.2.2.2.2.2.2.2.2.1).mono ?_
      rintro e w11 ⟨h2, rfl, ho, hb⟩
      have E11 := Lib.hid ((E10.out.next hb).and (St.own ho))
      clear hb
      clear ho
      have hyl := HN.out
      go_wp2
      go_ret
      exact ⟨by simp, (E11.out.now.2.2.2.2.2.2.2.2.2.2.2).alloc (E11.out.now.2.2.2.2.2.2.2.2.2.2.2).size _⟩
  · rw [even_no hz] at HX
    have HN : Hid (noneS.ks.length = 0) := Lib.hid rfl
    generalize noneS = X at *
    generalize prsV s f t = V at *
    obtain ⟨PL, e⟩ := V
    generalize prsV s 0 s.ks.length = V0 at *
    obtain ⟨LA, e0⟩ := V0
    dsimp only at *
    have he : (e != 0) = true := by rw [bne_iff_ne]; exact hz
    clear hz
    by_cases hz0 : e0 = 0
    · subst hz0
      go_enter Try.func5, Try.ntmps5
      go_wp2_with fail
      rw [allocS_fold, alloc2_fold, allocP_fold, show allocP (alloc2 (allocS w s h) _ _) px py = in2P w s h _ _ px py from rfl]
      refine (HAL.out _).mono ?_
      rintro e w1 ⟨rfl, hb⟩
      have E1 := Lib.hid (E0.out.next hb)
      clear hb
      obtain ⟨-, -, ⟨⟨bs_0, bs_1, bs_2, bs_3, bs_4, bs_5, -⟩, bs_l⟩, -, -⟩ := E1.out.now
      go_wp2_with fail
      refine (HG1.out _).mono ?_
      rintro e w2 ⟨rfl, hb⟩
      clear bs_0 bs_1 bs_2 bs_3 bs_4 bs_5 bs_l
      have E2 := Lib.hid (E1.out.next hb)
      clear hb
      obtain ⟨-, -, ⟨⟨bs_0, bs_1, bs_2, bs_3, bs_4, bs_5, -⟩, bs_l⟩, -, -⟩ := E2.out.now
      go_wp2_with fail
      clear bs_0 bs_1 bs_2 bs_3 bs_4 bs_5 bs_l
      refine (HP0.out _ E2.out.now.2.2.2.1).mono ?_
      rintro e w3 ⟨v, rfl, ho, hb⟩
      obtain ⟨a0, c0, rfl, -, hr2, hc0, -⟩ := owns2_arg ho
      clear ho
      have E3 := Lib.hid ((E2.out.next hb).and (St.rd2 hr2))
      clear hb
      obtain ⟨-, -, ⟨⟨bt_0, bt_1, -⟩, bt_l⟩, ⟨⟨bs_0, bs_1, bs_2, bs_3, bs_4, bs_5, -⟩, bs_l⟩, -, -⟩ := E3.out.now
      go_wp2_with fail
      clear bs_0 bs_1 bs_2 bs_3 bs_4 bs_5 bs_l bt_0 bt_1 bt_l
      refine (HP1.out _ E3.out.now.2.2.2.2.1).mono ?_
      rintro e w4 ⟨v, rfl, ho, hb⟩
      obtain ⟨a1, c1, rfl, -, hr2, hc1, -⟩ := owns2_arg ho
      clear ho
      have E4 := Lib.hid ((E3.out.next hb).and (St.rd2 hr2))
      clear hb
      obtain ⟨-, -, -, ⟨⟨bt_0, bt_1, -⟩, bt_l⟩, ⟨⟨bs_0, bs_1, bs_2, bs_3, bs_4, bs_5, -⟩, bs_l⟩, -, -⟩ := E4.out.now
      go_wp2_with fail
      clear bs_0 bs_1 bs_2 bs_3 bs_4 bs_5 bs_l bt_0 bt_1 bt_l
      refine (HX.out _ E4.out.now.2.2.2.2.2.1).mono ?_
      rintro e w5 ⟨h1, rfl, ho, hb⟩
      have E5 := Lib.hid ((E4.out.next hb).and (St.own ho))
      clear hb
      clear ho
      have hxl := HN.out
      go_wp2
      go_ret
      exact ⟨by simp, (E5.out.now.2.2.2.2.2.2.2).alloc (E5.out.now.2.2.2.2.2.2.2).size _⟩
    · have he0 : (e0 != 0) = true := by rw [bne_iff_ne]; exact hz0
      clear hz0
      go_enter Try.func5, Try.ntmps5
      go_wp2_with fail
      rw [allocS_fold, alloc2_fold, allocP_fold, show allocP (alloc2 (allocS w s h) _ _) px py = in2P w s h _ _ px py from rfl]
      refine (HAL.out _).mono ?_
      rintro e w1 ⟨rfl, hb⟩
      have E1 := Lib.hid (E0.out.next hb)
      clear hb
      obtain ⟨-, -, ⟨⟨bs_0, bs_1, bs_2, bs_3, bs_4, bs_5, -⟩, bs_l⟩, -, -⟩ := E1.out.now
      go_wp2_with fail
      refine (HG1.out _).mono ?_
      rintro e w2 ⟨rfl, hb⟩
      clear bs_0 bs_1 bs_2 bs_3 bs_4 bs_5 bs_l
      have E2 := Lib.hid (E1.out.next hb)
      clear hb
      obtain ⟨-, -, ⟨⟨bs_0, bs_1, bs_2, bs_3, bs_4, bs_5, -⟩, bs_l⟩, -, -⟩ := E2.out.now
      go_wp2_with fail
      clear bs_0 bs_1 bs_2 bs_3 bs_4 bs_5 bs_l
      refine (HP0.out _ E2.out.now.2.2.2.1).mono ?_
      rintro e w3 ⟨v, rfl, ho, hb⟩
      obtain ⟨a0, c0, rfl, -, hr2, hc0, -⟩ := owns2_arg ho
      clear ho
      have E3 := Lib.hid ((E2.out.next hb).and (St.rd2 hr2))
      clear hb
      obtain ⟨-, -, ⟨⟨bt_0, bt_1, -⟩, bt_l⟩, ⟨⟨bs_0, bs_1, bs_2, bs_3, bs_4, bs_5, -⟩, bs_l⟩, -, -⟩ := E3.out.now
      go_wp2_with fail
      clear bs_0 bs_1 bs_2 bs_3 bs_4 bs_5 bs_l bt_0 bt_1 bt_l
      refine (HP1.out _ E3.out.now.2.2.2.2.1).mono ?_
      rintro e w4 ⟨v, rfl, ho, hb⟩
      obtain ⟨a1, c1, rfl, -, hr2, hc1, -⟩ := owns2_arg ho
      clear ho
      have E4 := Lib.hid ((E3.out.next hb).and (St.rd2 hr2))
      clear hb
      obtain ⟨-, -, -, ⟨⟨bt_0, bt_1, -⟩, bt_l⟩, ⟨⟨bs_0, bs_1, bs_2, bs_3, bs_4, bs_5, -⟩, bs_l⟩, -, -⟩ := E4.out.now
      go_wp2_with fail
      clear bs_0 bs_1 bs_2 bs_3 bs_4 bs_5 bs_l bt_0 bt_1 bt_l
      refine (HX.out _ E4.out.now.2.2.2.2.2.1).mono ?_
      rintro e w5 ⟨h1, rfl, ho, hb⟩
      have E5 := Lib.hid ((E4.out.next hb).and (St.own ho))
      clear hb
      clear ho
      have hxl := HN.out
      go_wp2
      go_ret
      exact ⟨by simp, (E5.out.now.2.2.2.2.2.2.2).alloc (E5.out.now.2.2.2.2.2.2.2).size _⟩
end Go.Proofs.Ytfokbkkgokioeaa.Lay
