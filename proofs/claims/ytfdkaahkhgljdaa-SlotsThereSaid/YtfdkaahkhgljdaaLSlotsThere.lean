/- What is laid is there, nothing else is turned: the plain law. The law SlotsThere: its walk. -/
import Derived.Test.YtfdkaahkhgljdaaMan
namespace Go.Proofs.Ytfdkaahkhgljdaa.Slo
open Go.RowKit Go.Shelf Go.Sort Go.Proofs.Ytfdkaahkhgljdaa Go.Proofs.Ytfdkaahkhgljdaa.Occ Go.Proofs.Ytfdkaahkhgljdaa.Frac

theorem atV_of {s : Sl} (hk : okS s = true) {a : Nat} (h : a < s.ks.length) : atV s a = if occB s.ws a = true then (pairAt s a, 0) else ((0, 0), 6) := by
  have h1 : askS s (atB s.ks.length a) = 0 := by rw [atB_iff.2 (by omega)]; exact askS_in hk
  unfold atV
  rw [if_pos h1]
  simp
theorem atV_out {s : Sl} (hk : okS s = true) {a : Int} (h : ¬ (0 ≤ a ∧ a < s.ks.length)) : atV s a = ((0, 0), 2) := by
  have h0 : atB s.ks.length a = false := by rw [Bool.eq_false_iff]; intro g; exact h (atB_iff.1 g)
  have h1 : askS s (atB s.ks.length a) = 2 := by rw [h0]; exact askS_out hk
  unfold atV
  rw [h1]; rfl
theorem atV_congr {s s' : Sl} (hk : okS s = true) (hk' : okS s' = true) (hl : s'.ks.length = s.ks.length) (c : Int)
    (h : ∀ i : Nat, c = (i : Int) → i < s.ks.length → occB s'.ws i = occB s.ws i ∧ pairAt s' i = pairAt s i) : atV s' c = atV s c := by
  by_cases hc : 0 ≤ c ∧ c < s.ks.length
  · obtain ⟨i, rfl⟩ := Int.eq_ofNat_of_zero_le hc.1
    have hi : i < s.ks.length := by omega
    obtain ⟨h1, h2⟩ := h i rfl hi
    rw [atV_of hk hi, atV_of hk' (by omega), h1, h2]
  · rw [atV_out hk hc, atV_out hk' (by rw [hl]; exact hc)]
theorem pair_take {s : Sl} {g q a : Nat} (o : Ok s g q) (ha : a < s.ks.length) (i : Nat) : pairAt (takeV s a) i = if i = a then (0, 0) else pairAt s i := by
  show ((s.ks.set a 0).getD i 0, (s.vs.set a 0).getD i 0) = _
  rw [getD_set _ _ _ _ ha, getD_set _ _ _ _ (by rw [o.v]; exact ha)]
  split <;> rfl
theorem pair_set {s : Sl} {g q a : Nat} (o : Ok s g q) (ha : a < s.ks.length) (x y : Int) (i : Nat) : pairAt (setV s a x y) i = if i = a then (x, y) else pairAt s i := by
  show ((s.ks.set a x).getD i 0, (s.vs.set a y).getD i 0) = _
  rw [getD_set _ _ _ _ ha, getD_set _ _ _ _ (by rw [o.v]; exact ha)]
  split <;> rfl
theorem pair_lay {s : Sl} {g q a : Nat} (o : Ok s g q) (hu : U64 s.ws) (ha : a < s.ks.length) (x y : Int) (i : Nat) : pairAt (layV s a x y) i = if i = a then (x, y) else pairAt s i := by
  unfold layV
  rw [pair_set (o.take hu ha) (by rw [take_len]; exact ha), pair_take o ha]
  split <;> simp_all
theorem lay_occ {s : Sl} {g q a : Nat} (o : Ok s g q) (hu : U64 s.ws) (ha : a < s.ks.length) (x y : Int) (i : Nat) : occB (layV s a x y).ws i = if i = a then true else occB s.ws i := by
  unfold layV
  rw [set_occ (o.take hu ha) (take_u hu a) (by rw [take_len]; exact ha), take_occ o hu ha]
  split <;> simp_all
theorem lay_len {s : Sl} (a : Nat) (x y : Int) : (layV s a x y).ks.length = s.ks.length := by unfold layV; rw [set_len, take_len]
theorem lay_u {s : Sl} (hu : U64 s.ws) (a : Nat) (x y : Int) : U64 (layV s a x y).ws := set_u (take_u hu a) a x y
theorem wrap_u64 (n : Int) : 0 ≤ IntKind.u64.wrap n ∧ IntKind.u64.wrap n < 18446744073709551616 := u64_wf (wf_wrap .u64 n)
theorem laySV_no {s : Sl} {a x y : Int} (h : (laySV s a x y).2 ≠ 0) : (laySV s a x y).1 = noneS := by
  unfold laySV at *
  split
  · rename_i h1; rw [if_pos h1] at h; exact absurd rfl h
  · rfl
theorem moveSV_no {s : Sl} {a b : Int} (h : (moveSV s a b).2 ≠ 0) : (moveSV s a b).1 = noneS := by
  unfold moveSV at *
  split
  · rfl
  · split
    · rfl
    · split
      · rfl
      · rename_i h1 h2 h3; rw [if_neg h1, if_neg h2, if_neg h3] at h; exact absurd rfl h

/-- What the law asks of what was laid. -/
structure There (s : Sl) (a b c x y : Int) (X Y : Sl) : Prop where
  wx : X.Wf
  wy : Y.Wf
  lx : X.laid = IntKind.u64.wrap (s.laid + 1)
  ly : Y.laid = X.laid
  clr : clearSV X a = (Y, 0)
  atx : atV X a = ((x, y), 0)
  aty : (atV Y a).2 = 6
  cx : chkS X = 0
  cy : chkS Y = 0
  cc : c ≠ a → atV X c = atV s c ∧ atV Y c = atV s c
  mv : ∀ Z, moveSV X a b = (Z, 0) → Z.Wf ∧ atV Z b = ((x, y), 0) ∧ Z.laid = IntKind.u64.wrap (X.laid + 1) ∧ (a = b ∨ (atV Z a).2 = 6) ∧ (c = a ∨ c = b ∨ atV Z c = atV s c) ∧ chkS Z = 0
theorem there_of {s : Sl} {a x y : Int} (hu : U64 s.ws) (hl : 0 ≤ s.laid ∧ s.laid < 18446744073709551616) (h : (laySV s a x y).2 = 0) (b c : Int) :
    ∃ X Y, laySV s a x y = (X, 0) ∧ There s a b c x y X Y := by
  by_cases h1 : askS s (atB s.ks.length a) = 0
  · obtain ⟨hk, hat⟩ := askS_ok h1
    obtain ⟨h0, ha⟩ := atB_iff.1 hat
    obtain ⟨a, rfl⟩ := Int.eq_ofNat_of_zero_le h0
    have ha : a < s.ks.length := by omega
    obtain ⟨g, q, o⟩ := okS_iff.1 hk
    have oX := o.lay hu ha x y
    have uX := lay_u hu a x y
    have haX : a < (layV s a x y).ks.length := by rw [lay_len]; exact ha
    have oY := oX.take uX haX
    have uY := take_u uX a
    have lX : 0 ≤ (layV s a x y).laid ∧ (layV s a x y).laid < 18446744073709551616 := wrap_u64 _
    have eX : atV (layV s a x y) a = ((x, y), 0) := by
      rw [atV_of oX.ok haX, lay_occ o hu ha, if_pos rfl, if_pos rfl, pair_lay o hu ha, if_pos rfl]
    have occY : ∀ i, occB (takeV (layV s a x y) a).ws i = if i = a then false else occB s.ws i := fun i => by
      rw [take_occ oX uX haX, lay_occ o hu ha]; split <;> rfl
    have prY : ∀ i, pairAt (takeV (layV s a x y) a) i = if i = a then (0, 0) else pairAt s i := fun i => by
      rw [pair_take oX haX, pair_lay o hu ha]; split <;> rfl
    have haY : a < (takeV (layV s a x y) a).ks.length := by rw [take_len]; exact haX
    refine ⟨layV s a x y, takeV (layV s a x y) a, by unfold laySV; rw [if_pos h1]; simp, oX.wf uX lX, oY.wf uY lX, rfl, rfl, ?_, eX, ?_, ?_, ?_, ?_, ?_⟩
    · unfold clearSV; rw [eX, if_pos rfl]; simp
    · rw [atV_of oY.ok haY, occY, if_pos rfl]; rfl
    · unfold chkS; rw [if_pos oX.ok]
    · unfold chkS; rw [if_pos oY.ok]
    · intro hc
      refine ⟨atV_congr hk oX.ok (lay_len _ _ _) c fun i hi _ => ?_, atV_congr hk oY.ok (by rw [take_len, lay_len]) c fun i hi _ => ?_⟩
      · have hia : i ≠ a := fun e => hc (by rw [hi, e])
        rw [lay_occ o hu ha, pair_lay o hu ha, if_neg hia, if_neg hia]; exact ⟨rfl, rfl⟩
      · have hia : i ≠ a := fun e => hc (by rw [hi, e])
        rw [occY, prY, if_neg hia, if_neg hia]; exact ⟨rfl, rfl⟩
    · intro Z hZ
      unfold moveSV at hZ
      rw [eX, if_neg (by simp)] at hZ
      by_cases hb : b < 0 ∨ ((layV s a x y).ks.length : Int) ≤ b
      · rw [if_pos hb] at hZ; simp at hZ
      · rw [if_neg hb] at hZ
        obtain ⟨b, rfl⟩ := Int.eq_ofNat_of_zero_le (show 0 ≤ b by omega)
        have hb : b < s.ks.length := by rw [lay_len] at hb; omega
        by_cases hf : (b : Int) ≠ (a : Int) ∧ occB (layV s a x y).ws ((b : Int)).toNat = true
        · rw [if_pos hf] at hZ; simp at hZ
        · rw [if_neg hf] at hZ
          simp only [Int.toNat_natCast] at hZ
          rw [pair_lay o hu ha, if_pos rfl] at hZ
          obtain rfl : layV (takeV (layV s a x y) a) b x y = Z := (Prod.mk.inj hZ).1
          have hbY : b < (takeV (layV s a x y) a).ks.length := by rw [take_len, lay_len]; exact hb
          have oZ := oY.lay uY hbY x y
          have uZ := lay_u uY b x y
          have occZ : ∀ i, occB (layV (takeV (layV s a x y) a) b x y).ws i = if i = b then true else if i = a then false else occB s.ws i := fun i => by
            rw [lay_occ oY uY hbY, occY]
          have prZ : ∀ i, pairAt (layV (takeV (layV s a x y) a) b x y) i = if i = b then (x, y) else if i = a then (0, 0) else pairAt s i := fun i => by
            rw [pair_lay oY uY hbY, prY]
          have lenZ : (layV (takeV (layV s a x y) a) b x y).ks.length = s.ks.length := by rw [lay_len, take_len, lay_len]
          refine ⟨oZ.wf uZ (wrap_u64 _), ?_, rfl, ?_, ?_, ?_⟩
          · rw [atV_of oZ.ok (by rw [lenZ]; exact hb), occZ, prZ, if_pos rfl, if_pos rfl, if_pos rfl]
          · by_cases hab : a = b
            · left; rw [hab]
            · right
              rw [atV_of oZ.ok (by rw [lenZ]; exact ha), occZ, if_neg hab, if_pos rfl]; rfl
          · by_cases hca : c = (a : Int)
            · exact .inl hca
            · by_cases hcb : c = (b : Int)
              · exact .inr (.inl hcb)
              · refine .inr (.inr (atV_congr hk oZ.ok lenZ c fun i hi _ => ?_))
                have h1 : i ≠ a := fun e => hca (by rw [hi, e])
                have h2 : i ≠ b := fun e => hcb (by rw [hi, e])
                rw [occZ, prZ, if_neg h2, if_neg h1, if_neg h2, if_neg h1]; exact ⟨rfl, rfl⟩
          · unfold chkS; rw [if_pos oZ.ok]
  · exfalso
    unfold laySV at h
    rw [if_neg h1] at h
    exact h1 h
end Go.Proofs.Ytfdkaahkhgljdaa.Slo

namespace Go.Proofs.Ytfdkaahkhgljdaa.Slo
open Go.RowKit Go.Shelf Go.Sort Go.Proofs.Ytfdkaahkhgljdaa Go.Proofs.Ytfdkaahkhgljdaa.Occ Go.Proofs.Ytfdkaahkhgljdaa.Frac
attribute [local go_sem] sval Oper.semAt_some

/-- A pair that came in. -/
structure Pr where
  k : Int
  v : Int
def Pr.val (p : Pr) : Value := .agg #[.int .i64 p.k, .int .i64 p.v]
structure Pr.Ok (p : Pr) : Prop where
  wk : (Lit.int .i64 p.k).wf = true
  wv : (Lit.int .i64 p.v).wf = true
/-- Three numbers in a box. -/
def alloc3 (W : World) (a b c : Int) : World := W.alloc (.cells #[.int .i64 a, .int .i64 b, .int .i64 c] 64)
theorem alloc3_fold (W : World) (a b c : Int) : W.alloc (.cells #[.int .i64 a, .int .i64 b, .int .i64 c] 64) = alloc3 W a b c := rfl
theorem alloc3_size (W : World) (a b c : Int) : (alloc3 W a b c).heap.size = W.heap.size + 1 := by simp [alloc3]
theorem alloc3_below (W : World) (a b c : Int) : Below W.heap.size W (alloc3 W a b c) := (Below.refl _ W).alloc (Nat.le_refl _) _
structure B3 (W : World) (n : Nat) (a b c : Int) : Prop where
  c0 : W.cell? ⟨n, 0, Option.none⟩ = some (.int .i64 a)
  c1 : W.cell? ⟨n, 1, Option.none⟩ = some (.int .i64 b)
  c2 : W.cell? ⟨n, 2, Option.none⟩ = some (.int .i64 c)
  lt : n < W.heap.size
theorem B3.next {W W' : World} {n : Nat} {a b c : Int} (x : B3 W n a b c) (hb : Below W.heap.size W W') : B3 W' n a b c :=
  ⟨(hb.cell (p := ⟨n, 0, Option.none⟩) x.lt).trans x.c0, (hb.cell (p := ⟨n, 1, Option.none⟩) x.lt).trans x.c1, (hb.cell (p := ⟨n, 2, Option.none⟩) x.lt).trans x.c2, Nat.lt_of_lt_of_le x.lt hb.size⟩
theorem alloc3_b3 (W : World) (a b c : Int) : B3 (alloc3 W a b c) W.heap.size a b c :=
  ⟨by simp [alloc3], by simp [alloc3], by simp [alloc3], by rw [alloc3_size]; omega⟩
theorem St.b3 {W : World} {n : Nat} {a b c : Int} (x : B3 W n a b c) : St (fun W => B3 W n a b c) W := ⟨x, fun _ _ x hb => x.next hb⟩
/-- The three boxes. -/
def in3 (w : World) (s : Sl) (h : Hd) (a b c x y : Int) : World := allocP (alloc3 (allocS w s h) a b c) x y
theorem in3_size (w : World) (s : Sl) (h : Hd) (a b c x y : Int) : (in3 w s h a b c x y).heap.size = w.heap.size + 3 := by simp [in3, allocP_size, alloc3_size, allocS_size]
theorem in3_below (w : World) (s : Sl) (h : Hd) (a b c x y : Int) : Below w.heap.size w (in3 w s h a b c x y) :=
  (allocS_below w s h).trans (((alloc3_below _ a b c).trans ((allocP_below _ x y).mono (by rw [alloc3_size]; omega))).mono (by rw [allocS_size]; omega))
theorem in3_bs (w : World) (s : Sl) (h : Hd) (a b c x y : Int) : BS (in3 w s h a b c x y) w.heap.size s h :=
  ((allocS_bs w s h).next (alloc3_below _ a b c)).next (allocP_below _ x y)
theorem in3_b3 (w : World) (s : Sl) (h : Hd) (a b c x y : Int) : B3 (in3 w s h a b c x y) (w.heap.size + 1) a b c := by
  have := (alloc3_b3 (allocS w s h) a b c).next (allocP_below _ x y)
  rwa [allocS_size] at this
theorem in3_bp (w : World) (s : Sl) (h : Hd) (a b c x y : Int) : BP (in3 w s h a b c x y) (w.heap.size + 2) x y := by
  have := allocP_bp (alloc3 (allocS w s h) a b c) x y
  rwa [alloc3_size, allocS_size] at this

set_option maxRecDepth 100000 in
set_option maxHeartbeats 16000000 in
theorem slotsThere (x : In) (a b c : Int) (p : Pr) (w : World) (wx : x.Ok w) (wa : (Lit.int .i64 a).wf = true) (wb : (Lit.int .i64 b).wf = true) (wc : (Lit.int .i64 c).wf = true) (wp : p.Ok) :
    Calls Try.prog 6 #[x.val, .agg #[.int .i64 a, .int .i64 b, .int .i64 c], p.val] w fun e w' => e = .returned (.bool true) ∧ Below w.heap.size w w' := by
  obtain ⟨s, h, e1, S⟩ := wx.open
  obtain ⟨px, py⟩ := p
  rw [e1]
  unfold Pr.val
  dsimp only
  have HS := Lib.hid S
  clear S e1 wx wa wb wc wp x
  have HG1 := Lib.hid (fun w1 => Great_any s h 300 w1)
  have HAL := Lib.hid alive_any
  have E0 := Lib.hid ((((((St.below' (in3_below w s h a b c px py))).and (St.rd (HS.out.rd.next (in3_below w s h a b c px py)))).and (St.bs (in3_bs w s h a b c px py))).and (St.b3 (in3_b3 w s h a b c px py))).and (St.bp (in3_bp w s h a b c px py)))
  cases hg1 : greatB s 300
  case true =>
    rw [hg1] at HG1
    clear hg1
    go_enter Try.func6, Try.ntmps6
    go_wp2_with fail
    rw [allocS_fold, alloc3_fold, allocP_fold, show allocP (alloc3 (allocS w s h) a b c) px py = in3 w s h a b c px py from rfl]
    refine (HAL.out _).mono ?_
    rintro e w1 ⟨rfl, hb⟩
    have E1 := Lib.hid (E0.out.next hb)
    clear hb
    obtain ⟨-, -, ⟨⟨bs_0, bs_1, bs_2, bs_3, bs_4, bs_5, -⟩, bs_l⟩, -, -⟩ := E1.out.now
    go_wp2_with fail
    refine (HG1.out _).mono ?_
    rintro e w2 ⟨rfl, hb⟩
    clear bs_0 bs_1 bs_2 bs_3 bs_4 bs_5 bs_l
    have E2 := Lib.hid (E1.out.next hb)
    clear hb
    go_wp2
    go_ret
    exact ⟨rfl, E2.out.now.2.2.2.2⟩
  rw [hg1] at HG1
  have hls := greatB_no (m := 300) hg1
  obtain ⟨hl1, hl2, hl3, hl4⟩ := hls
  have HW := Lib.hid (HS.out.wf ⟨by omega, by omega, by omega, by omega⟩)
  have HL := Lib.hid (fun w1 (R : SRd w1 s h) => Lay_any s h a px py w1 HW.out R)
  clear hg1 hl1 hl2 hl3 hl4
  by_cases hz : (laySV s a px py).2 ≠ 0
  · have HX : Hid ((laySV s a px py).1.ks.length = 0) := Lib.hid (by rw [laySV_no hz]; rfl)
    generalize laySV s a px py = V at *
    obtain ⟨X, e⟩ := V
    dsimp only at hz HX
    have hb : (e != 0) = true := by rw [bne_iff_ne]; exact hz
    clear hz
    go_enter Try.func6, Try.ntmps6
    go_wp2_with fail
    rw [allocS_fold, alloc3_fold, allocP_fold, show allocP (alloc3 (allocS w s h) a b c) px py = in3 w s h a b c px py from rfl]
    refine (HAL.out _).mono ?_
    rintro e w1 ⟨rfl, hb⟩
    have E1 := Lib.hid (E0.out.next hb)
    clear hb
    obtain ⟨-, -, ⟨⟨bs_0, bs_1, bs_2, bs_3, bs_4, bs_5, -⟩, bs_l⟩, -, -⟩ := E1.out.now
    go_wp2_with fail
    refine (HG1.out _).mono ?_
    rintro e w2 ⟨rfl, hb⟩
    clear bs_0 bs_1 bs_2 bs_3 bs_4 bs_5 bs_l
    have E2 := Lib.hid (E1.out.next hb)
    clear hb
    obtain ⟨-, ⟨t0, t1, t2, -⟩, -, -, -⟩ := E2.out.now
    go_wp2
    refine still_lit mixed' (by kernel_rfl) ?_
    repeat still_step
    refine wpStill_nil ?_
    clear t0 t1 t2
    have E3 := Lib.hid (E2.out.next ((Below.refl _ w2).drew))
    generalize World.drew w2 = w3 at *
    obtain ⟨⟨⟨bp_0, bp_1, -⟩, bp_l⟩, -, ⟨⟨bs_0, bs_1, bs_2, bs_3, bs_4, bs_5, -⟩, bs_l⟩, -, -⟩ := E3.out.now
    go_wp2_with fail
    clear bs_0 bs_1 bs_2 bs_3 bs_4 bs_5 bs_l bp_0 bp_1 bp_l
    refine (HL.out _ E3.out.now.2.2.2.1).mono ?_
    rintro e w4 ⟨h1, rfl, ho, hb⟩
    have E4 := Lib.hid ((E3.out.next hb).and (St.own ho))
    clear hb
    have hxl := HX.out
    go_wp2
    go_ret
    exact ⟨by simp, (E4.out.now.2.2.2.2.2).alloc (E4.out.now.2.2.2.2.2).size _⟩
  · obtain ⟨X, Y, hX, T⟩ := there_of (x := px) (y := py) HS.out.u HS.out.laid (by simpa using hz) b c
    rw [hX] at HL
    clear hX hz
    have HT := Lib.hid T
    have hlx : (X.laid != IntKind.u64.wrap (s.laid + 1)) = false := by rw [T.lx]; simp
    have hly : (Y.laid != X.laid) = false := by rw [T.ly]; simp
    have HC := Lib.hid (fun h1 w1 (R : SRd w1 X h1) => Clear_any X h1 a w1 T.wx R)
    rw [T.clr] at HC
    have HAY := Lib.hid (fun h1 w1 (R : SRd w1 Y h1) => sAt_any Y h1 a w1 T.wy R)
    have hy6 := T.aty
    generalize atV Y a = VY at *
    obtain ⟨⟨y1, y2⟩, y3⟩ := VY
    dsimp only at hy6
    subst hy6
    have HIX := Lib.hid (fun h1 w1 (R : SRd w1 X h1) => is_ask X h1 a px py w1 T.wx R)
    rw [show decide (atV X a = ((px, py), 0)) = true by rw [T.atx]; simp] at HIX
    have HKX := Lib.hid (fun h1 w1 (R : SRd w1 X h1) => sCheck_any X h1 w1 T.wx R)
    rw [T.cx] at HKX
    have HKY := Lib.hid (fun h1 w1 (R : SRd w1 Y h1) => sCheck_any Y h1 w1 T.wy R)
    rw [T.cy] at HKY
    have HAS := Lib.hid (fun w1 (R : SRd w1 s h) => sAt_any s h c w1 HW.out R)
    have HAX := Lib.hid (fun h1 w1 (R : SRd w1 X h1) => sAt_any X h1 c w1 T.wx R)
    have HAY2 := Lib.hid (fun h1 w1 (R : SRd w1 Y h1) => sAt_any Y h1 c w1 T.wy R)
    have HCC := Lib.hid T.cc
    have HMV := Lib.hid T.mv
    have HM := Lib.hid (fun h1 w1 (R : SRd w1 X h1) => Move_any X h1 a b w1 T.wx R)
    have HNO := Lib.hid (fun h : (moveSV X a b).2 ≠ 0 => moveSV_no h)
    generalize moveSV X a b = VM at *
    generalize atV s c = VS at *
    obtain ⟨⟨u1, u2⟩, u3⟩ := VS
    clear T
    by_cases hca : c = a
    · have hne : (c != a) = false := by simp [hca]
      clear HAX HAY2
      have HCA := Lib.hid hca
      clear hca HCC
      go_enter Try.func6, Try.ntmps6
      go_wp2_with fail
      rw [allocS_fold, alloc3_fold, allocP_fold, show allocP (alloc3 (allocS w s h) a b c) px py = in3 w s h a b c px py from rfl]
      refine (HAL.out _).mono ?_
      rintro e w1 ⟨rfl, hb⟩
      have E1 := Lib.hid (E0.out.next hb)
      clear hb
      obtain ⟨-, -, ⟨⟨bs_0, bs_1, bs_2, bs_3, bs_4, bs_5, -⟩, bs_l⟩, -, -⟩ := E1.out.now
      go_wp2_with fail
      refine (HG1.out _).mono ?_
      rintro e w2 ⟨rfl, hb⟩
      clear bs_0 bs_1 bs_2 bs_3 bs_4 bs_5 bs_l
      have E2 := Lib.hid (E1.out.next hb)
      clear hb
      obtain ⟨-, ⟨t0, t1, t2, -⟩, -, -, -⟩ := E2.out.now
      go_wp2
      refine still_lit mixed' (by kernel_rfl) ?_
      repeat still_step
      refine wpStill_nil ?_
      clear t0 t1 t2
      have E3 := Lib.hid (E2.out.next ((Below.refl _ w2).drew))
      generalize World.drew w2 = w3 at *
      obtain ⟨⟨⟨bp_0, bp_1, -⟩, bp_l⟩, -, ⟨⟨bs_0, bs_1, bs_2, bs_3, bs_4, bs_5, -⟩, bs_l⟩, -, -⟩ := E3.out.now
      go_wp2_with fail
      clear bs_0 bs_1 bs_2 bs_3 bs_4 bs_5 bs_l bp_0 bp_1 bp_l
      refine (HL.out _ E3.out.now.2.2.2.1).mono ?_
      rintro e w4 ⟨h1, rfl, ho, hb⟩
      have E4 := Lib.hid ((E3.out.next hb).and (St.own ho))
      clear hb
      clear HL HG1 HAL
      go_wp2_with fail
      rw [allocS_fold]
      have E5 := Lib.hid ((E4.out.next (allocS_below w4 X h1)).and (St.bs (allocS_bs w4 X h1)))
      generalize allocS w4 X h1 = w5 at *
      refine (HC.out h1 _ (SOwn.rd E5.out.now.2.1)).mono ?_
      rintro e w6 ⟨h2, rfl, ho, hb⟩
      have E6 := Lib.hid ((E5.out.next hb).and (St.own ho))
      clear hb
      go_wp2_with fail
      rw [allocS_fold]
      have E7 := Lib.hid ((E6.out.next (allocS_below w6 Y h2)).and (St.bs (allocS_bs w6 Y h2)))
      generalize allocS w6 Y h2 = w7 at *
      refine (HAY.out h2 _ (SOwn.rd E7.out.now.2.1)).mono ?_
      rintro e w8 ⟨rfl, hb⟩
      have E8 := Lib.hid (E7.out.next hb)
      clear hb
      obtain ⟨-, -, ⟨⟨bx_0, bx_1, bx_2, bx_3, bx_4, bx_5, -⟩, bx_l⟩, -, ⟨⟨bp_0, bp_1, -⟩, bp_l⟩, -, -, -, -⟩ := E8.out.now
      go_wp2_with fail
      clear bx_0 bx_1 bx_2 bx_3 bx_4 bx_5 bx_l bp_0 bp_1 bp_l
      rw [allocP_fold]
      have E9 := Lib.hid ((E8.out.next (allocP_below w8 y1 y2)).and (St.bp (allocP_bp w8 y1 y2)))
      generalize allocP w8 y1 y2 = w9 at *
      clear HC HAY
      refine (HIX.out h1 _ (SOwn.rd E9.out.now.2.2.2.2.1)).mono ?_
      rintro e w10 ⟨rfl, hb⟩
      have E10 := Lib.hid (E9.out.next hb)
      clear hb
      obtain ⟨-, ⟨⟨by_0, by_1, by_2, by_3, by_4, by_5, -⟩, by_l⟩, -, ⟨⟨bx_0, bx_1, bx_2, bx_3, bx_4, bx_5, -⟩, bx_l⟩, -, -, -, ⟨⟨bs_0, bs_1, bs_2, bs_3, bs_4, bs_5, -⟩, bs_l⟩, -, -⟩ := E10.out.now
      go_wp2_with fail
      clear bs_0 bs_1 bs_2 bs_3 bs_4 bs_5 bs_l bx_0 bx_1 bx_2 bx_3 bx_4 bx_5 bx_l by_0 by_1 by_2 by_3 by_4 by_5 by_l
      refine (HKX.out h1 _ (SOwn.rd E10.out.now.2.2.2.2.1)).mono ?_
      rintro e w11 ⟨rfl, hb⟩
      have E11 := Lib.hid (E10.out.next hb)
      clear hb
      obtain ⟨-, ⟨⟨by_0, by_1, by_2, by_3, by_4, by_5, -⟩, by_l⟩, -, -, -, -, -, -, -, -⟩ := E11.out.now
      go_wp2_with fail
      clear by_0 by_1 by_2 by_3 by_4 by_5 by_l
      refine (HKY.out h2 _ (SOwn.rd E11.out.now.2.2.1)).mono ?_
      rintro e w12 ⟨rfl, hb⟩
      have E12 := Lib.hid (E11.out.next hb)
      clear hb
      clear HIX HKX HKY
      obtain ⟨-, -, -, -, -, -, -, ⟨⟨bs_0, bs_1, bs_2, bs_3, bs_4, bs_5, -⟩, bs_l⟩, -, -⟩ := E12.out.now
      go_wp2_with fail
      clear bs_0 bs_1 bs_2 bs_3 bs_4 bs_5 bs_l
      refine (HAS.out _ E12.out.now.2.2.2.2.2.2.2.2.1).mono ?_
      rintro e w13 ⟨rfl, hb⟩
      have E13 := Lib.hid (E12.out.next hb)
      clear hb
      obtain ⟨-, -, -, ⟨⟨bx_0, bx_1, bx_2, bx_3, bx_4, bx_5, -⟩, bx_l⟩, -, -, -, -, -, -⟩ := E13.out.now
      go_wp2_with fail
      clear bx_0 bx_1 bx_2 bx_3 bx_4 bx_5 bx_l
      rw [allocP_fold]
      have E14 := Lib.hid ((E13.out.next (allocP_below w13 u1 u2)).and (St.bp (allocP_bp w13 u1 u2)))
      generalize allocP w13 u1 u2 = w14 at *
      obtain ⟨Z, ez⟩ := VM
      have HQ := Lib.hid HCA.out
      refine (HM.out h1 _ (SOwn.rd E14.out.now.2.2.2.2.2.1)).mono ?_
      rintro e w15 ⟨h3, rfl, ho, hb⟩
      have E15 := Lib.hid ((E14.out.next hb).and (St.own ho))
      clear hb
      clear HM HAS
      dsimp only at HNO HMV
      by_cases hv : ez = 0
      · subst hv
        obtain ⟨wz, zb, zl, za, zc, zk⟩ := HMV.out Z rfl
        have HAZ := Lib.hid (fun h1 w1 (R : SRd w1 Z h1) => sAt_any Z h1 a w1 wz R)
        have HAZC := Lib.hid (fun h1 w1 (R : SRd w1 Z h1) => sAt_any Z h1 c w1 wz R)
        have HIZ := Lib.hid (fun h1 w1 (R : SRd w1 Z h1) => is_ask Z h1 b px py w1 wz R)
        rw [show decide (atV Z b = ((px, py), 0)) = true by rw [zb]; simp] at HIZ
        have HKZ := Lib.hid (fun h1 w1 (R : SRd w1 Z h1) => sCheck_any Z h1 w1 wz R)
        rw [zk] at HKZ
        have hlz : (Z.laid == IntKind.u64.wrap (X.laid + 1)) = true := by rw [zl]; simp
        have HZA := Lib.hid za
        have HZC := Lib.hid zc
        clear za zc zb zk zl wz HMV HNO
        generalize atV Z a = VA at *
        obtain ⟨⟨m1, m2⟩, m3⟩ := VA
        generalize atV Z c = VC at *
        obtain ⟨⟨n1, n2⟩, n3⟩ := VC
        dsimp only at HZA HZC
        go_wp2_with fail
        rw [allocS_fold]
        have E16 := Lib.hid ((E15.out.next (allocS_below w15 Z h3)).and (St.bs (allocS_bs w15 Z h3)))
        generalize allocS w15 Z h3 = w16 at *
        refine (HAZ.out h3 _ (SOwn.rd E16.out.now.2.1)).mono ?_
        rintro e w17 ⟨rfl, hb⟩
        have E17 := Lib.hid (E16.out.next hb)
        clear hb
        obtain ⟨⟨⟨bz_0, bz_1, bz_2, bz_3, bz_4, bz_5, -⟩, bz_l⟩, -, -, -, -, -, -, -, -, -, -, -, -⟩ := E17.out.now
        go_wp2_with fail
        clear bz_0 bz_1 bz_2 bz_3 bz_4 bz_5 bz_l
        rw [allocP_fold]
        have E18 := Lib.hid ((E17.out.next (allocP_below w17 m1 m2)).and (St.bp (allocP_bp w17 m1 m2)))
        generalize allocP w17 m1 m2 = w18 at *
        refine (HAZC.out h3 _ (SOwn.rd E18.out.now.2.2.1)).mono ?_
        rintro e w19 ⟨rfl, hb⟩
        have E19 := Lib.hid (E18.out.next hb)
        clear hb
        obtain ⟨-, ⟨⟨bz_0, bz_1, bz_2, bz_3, bz_4, bz_5, -⟩, bz_l⟩, -, -, -, -, -, -, -, ⟨⟨bp_0, bp_1, -⟩, bp_l⟩, -, -, -, -⟩ := E19.out.now
        go_wp2_with fail
        clear bz_0 bz_1 bz_2 bz_3 bz_4 bz_5 bz_l bp_0 bp_1 bp_l
        rw [allocP_fold]
        have E20 := Lib.hid ((E19.out.next (allocP_below w19 n1 n2)).and (St.bp (allocP_bp w19 n1 n2)))
        generalize allocP w19 n1 n2 = w20 at *
        refine (HIZ.out h3 _ (SOwn.rd E20.out.now.2.2.2.1)).mono ?_
        rintro e w21 ⟨rfl, hb⟩
        have E21 := Lib.hid (E20.out.next hb)
        clear hb
        clear HAZ HAZC HIZ HQ hlx hly hne
        by_cases hab : a = b
        · have e1 : (a == b) = true := by rw [beq_iff_eq]; exact hab
          clear hab
          have e2 : (c == a) = true := by rw [beq_iff_eq]; exact HCA.out
          obtain ⟨⟨⟨b27_0, b27_1, -⟩, b27_l⟩, -, ⟨⟨bz_0, bz_1, bz_2, bz_3, bz_4, bz_5, -⟩, bz_l⟩, -, ⟨⟨b17_0, b17_1, -⟩, b17_l⟩, -, -, -, ⟨⟨bx_0, bx_1, bx_2, bx_3, bx_4, bx_5, -⟩, bx_l⟩, -, -, -, -, -, -⟩ := E21.out.now
          go_wp2_with fail
          clear bz_0 bz_1 bz_2 bz_3 bz_4 bz_5 bz_l bx_0 bx_1 bx_2 bx_3 bx_4 bx_5 bx_l b17_0 b17_1 b17_l b27_0 b27_1 b27_l
          refine (HKZ.out h3 _ (SOwn.rd E21.out.now.2.2.2.1)).mono ?_
          rintro e w22 ⟨rfl, hb⟩
          have E22 := Lib.hid (E21.out.next hb)
          clear hb
          go_wp2_with fail
          go_ret
          exact ⟨by simp, E22.out.now.2.2.2.2.2.2.2.2.2.2.2.2.2.2⟩
        · have e1 : (a == b) = false := by rw [beq_eq_false_iff_ne]; exact hab
          have hm : m3 = 6 := HZA.out.elim (fun h => absurd h hab) id
          subst hm
          clear hab HZA
          have e2 : (c == a) = true := by rw [beq_iff_eq]; exact HCA.out
          obtain ⟨⟨⟨b27_0, b27_1, -⟩, b27_l⟩, -, ⟨⟨bz_0, bz_1, bz_2, bz_3, bz_4, bz_5, -⟩, bz_l⟩, -, ⟨⟨b17_0, b17_1, -⟩, b17_l⟩, -, -, -, ⟨⟨bx_0, bx_1, bx_2, bx_3, bx_4, bx_5, -⟩, bx_l⟩, -, -, -, -, -, -⟩ := E21.out.now
          go_wp2_with fail
          clear bz_0 bz_1 bz_2 bz_3 bz_4 bz_5 bz_l bx_0 bx_1 bx_2 bx_3 bx_4 bx_5 bx_l b17_0 b17_1 b17_l b27_0 b27_1 b27_l
          refine (HKZ.out h3 _ (SOwn.rd E21.out.now.2.2.2.1)).mono ?_
          rintro e w22 ⟨rfl, hb⟩
          have E22 := Lib.hid (E21.out.next hb)
          clear hb
          go_wp2_with fail
          go_ret
          exact ⟨by simp, E22.out.now.2.2.2.2.2.2.2.2.2.2.2.2.2.2⟩
      · have hzl : Z.ks.length = 0 := by rw [HNO.out hv]; rfl
        have hb : (ez != 0) = true := by rw [bne_iff_ne]; exact hv
        clear hv HMV HNO
        go_wp2
        go_ret
        exact ⟨by simp, (E15.out.now.2.2.2.2.2.2.2.2.2.2.2).alloc (E15.out.now.2.2.2.2.2.2.2.2.2.2.2).size _⟩
    · have hne : (c != a) = true := by rw [bne_iff_ne]; exact hca
      obtain ⟨hc1, hc2⟩ := HCC.out hca
      rw [hc1] at HAX
      rw [hc2] at HAY2
      clear hc1 hc2
      have HCA := Lib.hid hca
      clear hca HCC
      go_enter Try.func6, Try.ntmps6
      go_wp2_with fail
      rw [allocS_fold, alloc3_fold, allocP_fold, show allocP (alloc3 (allocS w s h) a b c) px py = in3 w s h a b c px py from rfl]
      refine (HAL.out _).mono ?_
      rintro e w1 ⟨rfl, hb⟩
      have E1 := Lib.hid (E0.out.next hb)
      clear hb
      obtain ⟨-, -, ⟨⟨bs_0, bs_1, bs_2, bs_3, bs_4, bs_5, -⟩, bs_l⟩, -, -⟩ := E1.out.now
      go_wp2_with fail
      refine (HG1.out _).mono ?_
      rintro e w2 ⟨rfl, hb⟩
      clear bs_0 bs_1 bs_2 bs_3 bs_4 bs_5 bs_l
      have E2 := Lib.hid (E1.out.next hb)
      clear hb
      obtain ⟨-, ⟨t0, t1, t2, -⟩, -, -, -⟩ := E2.out.now
      go_wp2
      refine still_lit mixed' (by kernel_rfl) ?_
      repeat still_step
      refine wpStill_nil ?_
      clear t0 t1 t2
      have E3 := Lib.hid (E2.out.next ((Below.refl _ w2).drew))
      generalize World.drew w2 = w3 at *
      obtain ⟨⟨⟨bp_0, bp_1, -⟩, bp_l⟩, -, ⟨⟨bs_0, bs_1, bs_2, bs_3, bs_4, bs_5, -⟩, bs_l⟩, -, -⟩ := E3.out.now
      go_wp2_with fail
      clear bs_0 bs_1 bs_2 bs_3 bs_4 bs_5 bs_l bp_0 bp_1 bp_l
      refine (HL.out _ E3.out.now.2.2.2.1).mono ?_
      rintro e w4 ⟨h1, rfl, ho, hb⟩
      have E4 := Lib.hid ((E3.out.next hb).and (St.own ho))
      clear hb
      clear HL HG1 HAL
      go_wp2_with fail
      rw [allocS_fold]
      have E5 := Lib.hid ((E4.out.next (allocS_below w4 X h1)).and (St.bs (allocS_bs w4 X h1)))
      generalize allocS w4 X h1 = w5 at *
      refine (HC.out h1 _ (SOwn.rd E5.out.now.2.1)).mono ?_
      rintro e w6 ⟨h2, rfl, ho, hb⟩
      have E6 := Lib.hid ((E5.out.next hb).and (St.own ho))
      clear hb
      go_wp2_with fail
      rw [allocS_fold]
      have E7 := Lib.hid ((E6.out.next (allocS_below w6 Y h2)).and (St.bs (allocS_bs w6 Y h2)))
      generalize allocS w6 Y h2 = w7 at *
      refine (HAY.out h2 _ (SOwn.rd E7.out.now.2.1)).mono ?_
      rintro e w8 ⟨rfl, hb⟩
      have E8 := Lib.hid (E7.out.next hb)
      clear hb
      obtain ⟨-, -, ⟨⟨bx_0, bx_1, bx_2, bx_3, bx_4, bx_5, -⟩, bx_l⟩, -, ⟨⟨bp_0, bp_1, -⟩, bp_l⟩, -, -, -, -⟩ := E8.out.now
      go_wp2_with fail
      clear bx_0 bx_1 bx_2 bx_3 bx_4 bx_5 bx_l bp_0 bp_1 bp_l
      rw [allocP_fold]
      have E9 := Lib.hid ((E8.out.next (allocP_below w8 y1 y2)).and (St.bp (allocP_bp w8 y1 y2)))
      generalize allocP w8 y1 y2 = w9 at *
      clear HC HAY
      refine (HIX.out h1 _ (SOwn.rd E9.out.now.2.2.2.2.1)).mono ?_
      rintro e w10 ⟨rfl, hb⟩
      have E10 := Lib.hid (E9.out.next hb)
      clear hb
      obtain ⟨-, ⟨⟨by_0, by_1, by_2, by_3, by_4, by_5, -⟩, by_l⟩, -, ⟨⟨bx_0, bx_1, bx_2, bx_3, bx_4, bx_5, -⟩, bx_l⟩, -, -, -, ⟨⟨bs_0, bs_1, bs_2, bs_3, bs_4, bs_5, -⟩, bs_l⟩, -, -⟩ := E10.out.now
      go_wp2_with fail
      clear bs_0 bs_1 bs_2 bs_3 bs_4 bs_5 bs_l bx_0 bx_1 bx_2 bx_3 bx_4 bx_5 bx_l by_0 by_1 by_2 by_3 by_4 by_5 by_l
      refine (HKX.out h1 _ (SOwn.rd E10.out.now.2.2.2.2.1)).mono ?_
      rintro e w11 ⟨rfl, hb⟩
      have E11 := Lib.hid (E10.out.next hb)
      clear hb
      obtain ⟨-, ⟨⟨by_0, by_1, by_2, by_3, by_4, by_5, -⟩, by_l⟩, -, -, -, -, -, -, -, -⟩ := E11.out.now
      go_wp2_with fail
      clear by_0 by_1 by_2 by_3 by_4 by_5 by_l
      refine (HKY.out h2 _ (SOwn.rd E11.out.now.2.2.1)).mono ?_
      rintro e w12 ⟨rfl, hb⟩
      have E12 := Lib.hid (E11.out.next hb)
      clear hb
      clear HIX HKX HKY
      obtain ⟨-, -, -, -, -, -, -, ⟨⟨bs_0, bs_1, bs_2, bs_3, bs_4, bs_5, -⟩, bs_l⟩, -, -⟩ := E12.out.now
      go_wp2_with fail
      clear bs_0 bs_1 bs_2 bs_3 bs_4 bs_5 bs_l
      refine (HAS.out _ E12.out.now.2.2.2.2.2.2.2.2.1).mono ?_
      rintro e w13 ⟨rfl, hb⟩
      have E13 := Lib.hid (E12.out.next hb)
      clear hb
      obtain ⟨-, -, -, ⟨⟨bx_0, bx_1, bx_2, bx_3, bx_4, bx_5, -⟩, bx_l⟩, -, -, -, -, -, -⟩ := E13.out.now
      go_wp2_with fail
      clear bx_0 bx_1 bx_2 bx_3 bx_4 bx_5 bx_l
      rw [allocP_fold]
      have E14 := Lib.hid ((E13.out.next (allocP_below w13 u1 u2)).and (St.bp (allocP_bp w13 u1 u2)))
      generalize allocP w13 u1 u2 = w14 at *
      refine (HAX.out h1 _ (SOwn.rd E14.out.now.2.2.2.2.2.1)).mono ?_
      rintro e w15 ⟨rfl, hb⟩
      have E15 := Lib.hid (E14.out.next hb)
      clear hb
      obtain ⟨-, -, ⟨⟨by_0, by_1, by_2, by_3, by_4, by_5, -⟩, by_l⟩, -, -, -, -, -, -, -, -⟩ := E15.out.now
      go_wp2_with fail
      clear by_0 by_1 by_2 by_3 by_4 by_5 by_l
      rw [allocP_fold]
      have E16 := Lib.hid ((E15.out.next (allocP_below w15 u1 u2)).and (St.bp (allocP_bp w15 u1 u2)))
      generalize allocP w15 u1 u2 = w16 at *
      refine (HAY2.out h2 _ (SOwn.rd E16.out.now.2.2.2.2.1)).mono ?_
      rintro e w17 ⟨rfl, hb⟩
      have E17 := Lib.hid (E16.out.next hb)
      clear hb
      have hq : ∀ w : World, (Op.equalIn 10000 43 (.agg #[.int .i64 u1, .int .i64 u2]) (.agg #[.int .i64 u1, .int .i64 u2])).run Try.prog w = .ok true w := fun w => by rw [run_equal_pair]; simp
      have hgd : Try.prog.eqGuardType Try.prog.depth 43 = false := by kernel_rfl
      obtain ⟨⟨⟨b19_0, b19_1, -⟩, b19_l⟩, ⟨⟨b17_0, b17_1, -⟩, b17_l⟩, -, -, -, ⟨⟨bx_0, bx_1, bx_2, bx_3, bx_4, bx_5, -⟩, bx_l⟩, -, -, -, -, -, -⟩ := E17.out.now
      go_wp2_with fail
      clear b17_0 b17_1 b17_l b19_0 b19_1 b19_l bx_0 bx_1 bx_2 bx_3 bx_4 bx_5 bx_l
      rw [allocP_fold]
      have E18 := Lib.hid ((E17.out.next (allocP_below w17 u1 u2)).and (St.bp (allocP_bp w17 u1 u2)))
      generalize allocP w17 u1 u2 = w18 at *
      obtain ⟨Z, ez⟩ := VM
      have HQ := Lib.hid HCA.out
      refine (HM.out h1 _ (SOwn.rd E18.out.now.2.2.2.2.2.2.2.1)).mono ?_
      rintro e w19 ⟨h3, rfl, ho, hb⟩
      have E19 := Lib.hid ((E18.out.next hb).and (St.own ho))
      clear hb
      clear HM HAS
      dsimp only at HNO HMV
      by_cases hv : ez = 0
      · subst hv
        obtain ⟨wz, zb, zl, za, zc, zk⟩ := HMV.out Z rfl
        have HAZ := Lib.hid (fun h1 w1 (R : SRd w1 Z h1) => sAt_any Z h1 a w1 wz R)
        have HAZC := Lib.hid (fun h1 w1 (R : SRd w1 Z h1) => sAt_any Z h1 c w1 wz R)
        have HIZ := Lib.hid (fun h1 w1 (R : SRd w1 Z h1) => is_ask Z h1 b px py w1 wz R)
        rw [show decide (atV Z b = ((px, py), 0)) = true by rw [zb]; simp] at HIZ
        have HKZ := Lib.hid (fun h1 w1 (R : SRd w1 Z h1) => sCheck_any Z h1 w1 wz R)
        rw [zk] at HKZ
        have hlz : (Z.laid == IntKind.u64.wrap (X.laid + 1)) = true := by rw [zl]; simp
        have HZA := Lib.hid za
        have HZC := Lib.hid zc
        clear za zc zb zk zl wz HMV HNO
        generalize atV Z a = VA at *
        obtain ⟨⟨m1, m2⟩, m3⟩ := VA
        generalize atV Z c = VC at *
        obtain ⟨⟨n1, n2⟩, n3⟩ := VC
        dsimp only at HZA HZC
        go_wp2_with fail
        rw [allocS_fold]
        have E20 := Lib.hid ((E19.out.next (allocS_below w19 Z h3)).and (St.bs (allocS_bs w19 Z h3)))
        generalize allocS w19 Z h3 = w20 at *
        refine (HAZ.out h3 _ (SOwn.rd E20.out.now.2.1)).mono ?_
        rintro e w21 ⟨rfl, hb⟩
        have E21 := Lib.hid (E20.out.next hb)
        clear hb
        obtain ⟨⟨⟨bz_0, bz_1, bz_2, bz_3, bz_4, bz_5, -⟩, bz_l⟩, -, -, -, -, -, -, -, -, -, -, -, -, -, -⟩ := E21.out.now
        go_wp2_with fail
        clear bz_0 bz_1 bz_2 bz_3 bz_4 bz_5 bz_l
        rw [allocP_fold]
        have E22 := Lib.hid ((E21.out.next (allocP_below w21 m1 m2)).and (St.bp (allocP_bp w21 m1 m2)))
        generalize allocP w21 m1 m2 = w22 at *
        refine (HAZC.out h3 _ (SOwn.rd E22.out.now.2.2.1)).mono ?_
        rintro e w23 ⟨rfl, hb⟩
        have E23 := Lib.hid (E22.out.next hb)
        clear hb
        obtain ⟨-, ⟨⟨bz_0, bz_1, bz_2, bz_3, bz_4, bz_5, -⟩, bz_l⟩, -, -, -, -, -, -, -, -, -, ⟨⟨bp_0, bp_1, -⟩, bp_l⟩, -, -, -, -⟩ := E23.out.now
        go_wp2_with fail
        clear bz_0 bz_1 bz_2 bz_3 bz_4 bz_5 bz_l bp_0 bp_1 bp_l
        rw [allocP_fold]
        have E24 := Lib.hid ((E23.out.next (allocP_below w23 n1 n2)).and (St.bp (allocP_bp w23 n1 n2)))
        generalize allocP w23 n1 n2 = w24 at *
        refine (HIZ.out h3 _ (SOwn.rd E24.out.now.2.2.2.1)).mono ?_
        rintro e w25 ⟨rfl, hb⟩
        have E25 := Lib.hid (E24.out.next hb)
        clear hb
        clear HAZ HAZC HIZ HQ hlx hly hne
        by_cases hab : a = b
        · have e1 : (a == b) = true := by rw [beq_iff_eq]; exact hab
          clear hab
          have e2 : (c == a) = false := by rw [beq_eq_false_iff_ne]; exact HCA.out
          by_cases hcb : c = b
          · have e3 : (c == b) = true := by rw [beq_iff_eq]; exact hcb
            clear hcb
            obtain ⟨⟨⟨b27_0, b27_1, -⟩, b27_l⟩, -, ⟨⟨bz_0, bz_1, bz_2, bz_3, bz_4, bz_5, -⟩, bz_l⟩, -, -, -, ⟨⟨b17_0, b17_1, -⟩, b17_l⟩, -, -, -, ⟨⟨bx_0, bx_1, bx_2, bx_3, bx_4, bx_5, -⟩, bx_l⟩, -, -, -, -, -, -⟩ := E25.out.now
            go_wp2_with fail
            clear bz_0 bz_1 bz_2 bz_3 bz_4 bz_5 bz_l bx_0 bx_1 bx_2 bx_3 bx_4 bx_5 bx_l b17_0 b17_1 b17_l b27_0 b27_1 b27_l
            refine (HKZ.out h3 _ (SOwn.rd E25.out.now.2.2.2.1)).mono ?_
            rintro e w26 ⟨rfl, hb⟩
            have E26 := Lib.hid (E25.out.next hb)
            clear hb
            go_wp2_with fail
            go_ret
            exact ⟨by simp, E26.out.now.2.2.2.2.2.2.2.2.2.2.2.2.2.2.2.2⟩
          · have e3 : (c == b) = false := by rw [beq_eq_false_iff_ne]; exact hcb
            have hn : ((n1, n2), n3) = ((u1, u2), u3) := HZC.out.elim (fun h => absurd h HCA.out) (fun h => h.elim (fun h => absurd h hcb) id)
            simp only [Prod.mk.injEq] at hn
            obtain ⟨⟨rfl, rfl⟩, rfl⟩ := hn
            clear hcb HZC
            obtain ⟨⟨⟨b27_0, b27_1, -⟩, b27_l⟩, -, ⟨⟨bz_0, bz_1, bz_2, bz_3, bz_4, bz_5, -⟩, bz_l⟩, -, -, -, ⟨⟨b17_0, b17_1, -⟩, b17_l⟩, -, -, -, ⟨⟨bx_0, bx_1, bx_2, bx_3, bx_4, bx_5, -⟩, bx_l⟩, -, -, -, -, -, -⟩ := E25.out.now
            go_wp2_with fail
            clear bz_0 bz_1 bz_2 bz_3 bz_4 bz_5 bz_l bx_0 bx_1 bx_2 bx_3 bx_4 bx_5 bx_l b17_0 b17_1 b17_l b27_0 b27_1 b27_l
            refine (HKZ.out h3 _ (SOwn.rd E25.out.now.2.2.2.1)).mono ?_
            rintro e w26 ⟨rfl, hb⟩
            have E26 := Lib.hid (E25.out.next hb)
            clear hb
            go_wp2_with fail
            go_ret
            exact ⟨by simp, E26.out.now.2.2.2.2.2.2.2.2.2.2.2.2.2.2.2.2⟩
        · have e1 : (a == b) = false := by rw [beq_eq_false_iff_ne]; exact hab
          have hm : m3 = 6 := HZA.out.elim (fun h => absurd h hab) id
          subst hm
          clear hab HZA
          have e2 : (c == a) = false := by rw [beq_eq_false_iff_ne]; exact HCA.out
          by_cases hcb : c = b
          · have e3 : (c == b) = true := by rw [beq_iff_eq]; exact hcb
            clear hcb
            obtain ⟨⟨⟨b27_0, b27_1, -⟩, b27_l⟩, -, ⟨⟨bz_0, bz_1, bz_2, bz_3, bz_4, bz_5, -⟩, bz_l⟩, -, -, -, ⟨⟨b17_0, b17_1, -⟩, b17_l⟩, -, -, -, ⟨⟨bx_0, bx_1, bx_2, bx_3, bx_4, bx_5, -⟩, bx_l⟩, -, -, -, -, -, -⟩ := E25.out.now
            go_wp2_with fail
            clear bz_0 bz_1 bz_2 bz_3 bz_4 bz_5 bz_l bx_0 bx_1 bx_2 bx_3 bx_4 bx_5 bx_l b17_0 b17_1 b17_l b27_0 b27_1 b27_l
            refine (HKZ.out h3 _ (SOwn.rd E25.out.now.2.2.2.1)).mono ?_
            rintro e w26 ⟨rfl, hb⟩
            have E26 := Lib.hid (E25.out.next hb)
            clear hb
            go_wp2_with fail
            go_ret
            exact ⟨by simp, E26.out.now.2.2.2.2.2.2.2.2.2.2.2.2.2.2.2.2⟩
          · have e3 : (c == b) = false := by rw [beq_eq_false_iff_ne]; exact hcb
            have hn : ((n1, n2), n3) = ((u1, u2), u3) := HZC.out.elim (fun h => absurd h HCA.out) (fun h => h.elim (fun h => absurd h hcb) id)
            simp only [Prod.mk.injEq] at hn
            obtain ⟨⟨rfl, rfl⟩, rfl⟩ := hn
            clear hcb HZC
            obtain ⟨⟨⟨b27_0, b27_1, -⟩, b27_l⟩, -, ⟨⟨bz_0, bz_1, bz_2, bz_3, bz_4, bz_5, -⟩, bz_l⟩, -, -, -, ⟨⟨b17_0, b17_1, -⟩, b17_l⟩, -, -, -, ⟨⟨bx_0, bx_1, bx_2, bx_3, bx_4, bx_5, -⟩, bx_l⟩, -, -, -, -, -, -⟩ := E25.out.now
            go_wp2_with fail
            clear bz_0 bz_1 bz_2 bz_3 bz_4 bz_5 bz_l bx_0 bx_1 bx_2 bx_3 bx_4 bx_5 bx_l b17_0 b17_1 b17_l b27_0 b27_1 b27_l
            refine (HKZ.out h3 _ (SOwn.rd E25.out.now.2.2.2.1)).mono ?_
            rintro e w26 ⟨rfl, hb⟩
            have E26 := Lib.hid (E25.out.next hb)
            clear hb
            go_wp2_with fail
            go_ret
            exact ⟨by simp, E26.out.now.2.2.2.2.2.2.2.2.2.2.2.2.2.2.2.2⟩
      · have hzl : Z.ks.length = 0 := by rw [HNO.out hv]; rfl
        have hb : (ez != 0) = true := by rw [bne_iff_ne]; exact hv
        clear hv HMV HNO
        go_wp2
        go_ret
        exact ⟨by simp, (E19.out.now.2.2.2.2.2.2.2.2.2.2.2.2.2).alloc (E19.out.now.2.2.2.2.2.2.2.2.2.2.2.2.2).size _⟩
end Go.Proofs.Ytfdkaahkhgljdaa.Slo
