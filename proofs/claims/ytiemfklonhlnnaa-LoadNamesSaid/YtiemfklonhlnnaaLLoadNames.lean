/- The law LoadNames: its walk. -/
import Derived.Test.YtiemfklonhlnnaaMat
set_option linter.unusedSimpArgs false
set_option linter.unusedVariables false
namespace Go.Proofs.Ytiemfklonhlnnaa.Load
open Go.RowKit Go.Shelf Go.Sort Go.Proofs.Ytiemfklonhlnnaa Go.Proofs.Ytiemfklonhlnnaa.Occ Go.Proofs.Ytiemfklonhlnnaa.Slo Go.Proofs.Ytiemfklonhlnnaa.Seek Go.Proofs.Ytiemfklonhlnnaa.Lay
attribute [local go_sem] sval cval mval Oper.semAt_some
attribute [local irreducible] Code.wp
/-- What the operations of a drawn region have yielded. -/
def nbF (w : World) (c : Conf.Cfg) (Sm Sz : Sl) (hm : Hd) (bn : Nat) (B : Nat → Option Value) : Nat → Value → World → Prop
  | 0, v, W => v = mval c Sm hm
  | 1, v, W => v = .slice (some ⟨bn, 0, Option.none⟩) 9 9
  | 2, v, W => v = .slice (some ⟨bn, 0, Option.none⟩) 8 9
  | 3, v, W => ∃ g, v = .tuple #[mval c Sz g, .int .i64 0] ∧ (B 8 = none → ∃ lo hi, SOwn W lo hi Sz g)
  | 4, v, W => ∃ g, v = .tuple #[mval c Sz g, .int .i64 0] ∧ (B 8 = none → ∃ lo hi, SOwn W lo hi Sz g)
  | 5, v, W => ∃ g, v = mval c Sz g ∧ (B 8 = none → ∃ lo hi, SOwn W lo hi Sz g)
  | 6, v, W => v = .int .i64 0
  | 7, v, W => ∃ b, v = .pointer (some ⟨b, 0, Option.none⟩) ∧ w.heap.size ≤ b ∧ (B 8 = none → BV W b mz ∧ TB W b)
  | 8, _, _ => True
  | 9, v, W => v = .int .i64 0
  | _, _, _ => True
theorem nbF_mono {w : World} {c : Conf.Cfg} {Sm Sz : Sl} {hm : Hd} {bn : Nat} {B : Nat → Option Value} {k : Nat} {u : Value} : ∀ {i v W W'}, nbF w c Sm Sz hm bn B i v W → Below W.heap.size W W' → nbF w c Sm Sz hm bn (Mix.updV B k u) i v W'
  | 0, v, W, W', h, hb => h
  | 1, v, W, W', h, hb => h
  | 2, v, W, W', h, hb => h
  | 3, v, W, W', h, hb => (fun ⟨g, e, r⟩ => ⟨g, e, fun q => (fun ⟨lo, hi, o⟩ => ⟨lo, hi, o.below hb⟩) (r (Mix.updV_none q).2)⟩) h
  | 4, v, W, W', h, hb => (fun ⟨g, e, r⟩ => ⟨g, e, fun q => (fun ⟨lo, hi, o⟩ => ⟨lo, hi, o.below hb⟩) (r (Mix.updV_none q).2)⟩) h
  | 5, v, W, W', h, hb => (fun ⟨g, e, r⟩ => ⟨g, e, fun q => (fun ⟨lo, hi, o⟩ => ⟨lo, hi, o.below hb⟩) (r (Mix.updV_none q).2)⟩) h
  | 6, v, W, W', h, hb => h
  | 7, v, W, W', h, hb => (fun ⟨b, h, hl, bx⟩ => ⟨b, h, hl, fun e => ⟨(bx (Mix.updV_none e).2).1.next hb, (bx (Mix.updV_none e).2).2.next (bx (Mix.updV_none e).2).1.lt hb⟩⟩) h
  | 8, v, W, W', h, _ => trivial
  | 9, v, W, W', h, hb => h
  | _ + 10, _, _, _, _, _ => trivial
theorem nbF_store {w : World} {c : Conf.Cfg} {Sm Sz : Sl} {hm : Hd} {bn : Nat} {B : Nat → Option Value} {u : Value}  : ∀ {i v W W'}, nbF w c Sm Sz hm bn B i v W → nbF w c Sm Sz hm bn (Mix.updV B 8 u) i v W'
  | 0, v, W, W', h => h
  | 1, v, W, W', h => h
  | 2, v, W, W', h => h
  | 3, v, W, W', h => (fun ⟨g, e, _⟩ => ⟨g, e, fun q => absurd rfl (Mix.updV_none q).1⟩) h
  | 4, v, W, W', h => (fun ⟨g, e, _⟩ => ⟨g, e, fun q => absurd rfl (Mix.updV_none q).1⟩) h
  | 5, v, W, W', h => (fun ⟨g, e, _⟩ => ⟨g, e, fun q => absurd rfl (Mix.updV_none q).1⟩) h
  | 6, v, W, W', h => h
  | 7, v, W, W', h => (fun ⟨b, h, hl, _⟩ => ⟨b, h, hl, fun e => absurd rfl (Mix.updV_none e).1⟩) h
  | 8, v, W, W', h => trivial
  | 9, v, W, W', h => h
  | _ + 10, _, _, _, _ => trivial
structure nbI (w : World) (c : Conf.Cfg) (Sm Sz : Sl) (hm : Hd) (bn : Nat) (B : Nat → Option Value) (W : World) : Prop where
  below : Below w.heap.size w W
  f : ∀ i v, B i = some v → nbF w c Sm Sz hm bn B i v W
  st : ∀ u, B 8 = some u → ∃ b g, B 7 = some (.pointer (some ⟨b, 0, Option.none⟩)) ∧ BV W b (ml c Sz g) ∧ MRd W Sz g
theorem nbI.next {w W W' : World} {c : Conf.Cfg} {Sm Sz : Sl} {hm : Hd} {bn : Nat} {B : Nat → Option Value} {k : Nat} {u : Value} (h : nbI w c Sm Sz hm bn B W) (hb : Below W.heap.size W W') (hu' : nbF w c Sm Sz hm bn (Mix.updV B k u) k u W') (hn : B k = none := by assumption) (h8 : k ≠ 8 := by decide) : nbI w c Sm Sz hm bn (Mix.updV B k u) W' :=
  ⟨h.below.trans (hb.mono h.below.size), fun i v hv => by
    rcases Mix.updV_some hv with ⟨rfl, rfl⟩ | ⟨-, hv'⟩
    · exact hu'
    · exact nbF_mono (h.f i v hv') hb, fun q hq => by
    rcases Mix.updV_some hq with ⟨e, -⟩ | ⟨-, hq'⟩
    · exact absurd e.symm h8
    · obtain ⟨b, g, h7, hv, hr⟩ := h.st q hq'
      refine ⟨b, g, ?_, hv.next hb, hr.next hb⟩
      unfold Mix.updV
      rw [if_neg]
      · exact h7
      · rintro rfl
        rw [hn] at h7; cases h7⟩
theorem nbI.store {w W W' : World} {c : Conf.Cfg} {Sm Sz : Sl} {hm : Hd} {bn : Nat} {B : Nat → Option Value} {u : Value} (h : nbI w c Sm Sz hm bn B W) (hb : Below w.heap.size w W') (hs : ∃ b g, B 7 = some (.pointer (some ⟨b, 0, Option.none⟩)) ∧ BV W' b (ml c Sz g) ∧ MRd W' Sz g) : nbI w c Sm Sz hm bn (Mix.updV B 8 u) W' :=
  ⟨hb, fun i v hv => by
    rcases Mix.updV_some hv with ⟨rfl, rfl⟩ | ⟨-, hv'⟩
    · trivial
    · exact nbF_store  (h.f i v hv'), fun q hq => by
    obtain ⟨b, g, h7, hv, hr⟩ := hs
    refine ⟨b, g, ?_, hv, hr⟩
    unfold Mix.updV
    rw [if_neg (by decide)]
    exact h7⟩
def nbD : Nat → List Nat
  | 2 => [1]
  | 3 => [0, 2]
  | 4 => [3]
  | 5 => [4]
  | 6 => [4]
  | 8 => [3, 5, 7]
  | 9 => [6]
  | _ => []
def nbS : List (Nat × Option Tmp) := [(0, some 72), (1, some 73), (2, some 74), (3, some 75), (4, some 71), (5, some 76), (6, some 77), (7, some 15), (8, none), (9, some 16)]
/-- What the operations of a drawn region have yielded. -/
def ncF (w : World) (c : Conf.Cfg) (Sz S9 : Sl) (hz : Hd) (B : Nat → Option Value) : Nat → Value → World → Prop
  | 0, v, W => v = mval c Sz hz
  | 1, v, W => v = .agg #[.int .i64 9, .int .i64 0]
  | 2, v, W => B 3 = none → ∃ a, v = .slice (some a) 1 1 ∧ Rd2 W (some a) [(9, 0)]
  | 3, v, W => B 4 = none → ∃ g, v = mval c S9 g ∧ MRd W S9 g
  | 4, v, W => ∃ h, v = .tuple #[mval cz noneS h, .int .i64 9]
  | 5, v, W => ∃ h, v = .tuple #[mval cz noneS h, .int .i64 9]
  | 6, v, W => ∃ h, v = mval cz noneS h
  | 7, v, W => v = .int .i64 9
  | 8, v, W => ∃ b, v = .pointer (some ⟨b, 0, Option.none⟩) ∧ w.heap.size ≤ b ∧ (B 9 = none → BV W b mz ∧ TB W b)
  | 9, _, _ => True
  | 10, v, W => v = .int .i64 9
  | _, _, _ => True
theorem ncF_mono {w : World} {c : Conf.Cfg} {Sz S9 : Sl} {hz : Hd} {B : Nat → Option Value} {k : Nat} {u : Value} : ∀ {i v W W'}, ncF w c Sz S9 hz B i v W → Below W.heap.size W W' → ncF w c Sz S9 hz (Mix.updV B k u) i v W'
  | 0, v, W, W', h, hb => h
  | 1, v, W, W', h, hb => h
  | 2, v, W, W', h, hb => fun e => (fun h => (fun ⟨a, h, r⟩ => ⟨a, h, r.mono hb (Nat.le_refl _)⟩) h) (h (Mix.updV_none e).2)
  | 3, v, W, W', h, hb => fun e => (fun h => (fun ⟨g, h, r⟩ => ⟨g, h, r.next hb⟩) h) (h (Mix.updV_none e).2)
  | 4, v, W, W', h, hb => h
  | 5, v, W, W', h, hb => h
  | 6, v, W, W', h, hb => h
  | 7, v, W, W', h, hb => h
  | 8, v, W, W', h, hb => (fun ⟨b, h, hl, bx⟩ => ⟨b, h, hl, fun e => ⟨(bx (Mix.updV_none e).2).1.next hb, (bx (Mix.updV_none e).2).2.next (bx (Mix.updV_none e).2).1.lt hb⟩⟩) h
  | 9, v, W, W', h, _ => trivial
  | 10, v, W, W', h, hb => h
  | _ + 11, _, _, _, _, _ => trivial
theorem ncF_store {w : World} {c : Conf.Cfg} {Sz S9 : Sl} {hz : Hd} {B : Nat → Option Value} {u : Value} (h3 : B 3 ≠ none) (h4 : B 4 ≠ none) : ∀ {i v W W'}, ncF w c Sz S9 hz B i v W → ncF w c Sz S9 hz (Mix.updV B 9 u) i v W'
  | 0, v, W, W', h => h
  | 1, v, W, W', h => h
  | 2, v, W, W', h => fun e => absurd (Mix.updV_none e).2 h3
  | 3, v, W, W', h => fun e => absurd (Mix.updV_none e).2 h4
  | 4, v, W, W', h => h
  | 5, v, W, W', h => h
  | 6, v, W, W', h => h
  | 7, v, W, W', h => h
  | 8, v, W, W', h => (fun ⟨b, h, hl, _⟩ => ⟨b, h, hl, fun e => absurd rfl (Mix.updV_none e).1⟩) h
  | 9, v, W, W', h => trivial
  | 10, v, W, W', h => h
  | _ + 11, _, _, _, _ => trivial
structure ncI (w : World) (c : Conf.Cfg) (Sz S9 : Sl) (hz : Hd) (B : Nat → Option Value) (W : World) : Prop where
  below : Below w.heap.size w W
  f : ∀ i v, B i = some v → ncF w c Sz S9 hz B i v W
theorem ncI.next {w W W' : World} {c : Conf.Cfg} {Sz S9 : Sl} {hz : Hd} {B : Nat → Option Value} {k : Nat} {u : Value} (h : ncI w c Sz S9 hz B W) (hb : Below W.heap.size W W') (hu' : ncF w c Sz S9 hz (Mix.updV B k u) k u W') : ncI w c Sz S9 hz (Mix.updV B k u) W' :=
  ⟨h.below.trans (hb.mono h.below.size), fun i v hv => by
    rcases Mix.updV_some hv with ⟨rfl, rfl⟩ | ⟨-, hv'⟩
    · exact hu'
    · exact ncF_mono (h.f i v hv') hb⟩
theorem ncI.store {w W W' : World} {c : Conf.Cfg} {Sz S9 : Sl} {hz : Hd} {B : Nat → Option Value} {u : Value} (h : ncI w c Sz S9 hz B W) (hb : Below w.heap.size w W') (h3 : B 3 ≠ none) (h4 : B 4 ≠ none) : ncI w c Sz S9 hz (Mix.updV B 9 u) W' :=
  ⟨hb, fun i v hv => by
    rcases Mix.updV_some hv with ⟨rfl, rfl⟩ | ⟨-, hv'⟩
    · trivial
    · exact ncF_store h3 h4 (h.f i v hv')⟩
def ncD : Nat → List Nat
  | 2 => [1]
  | 3 => [2]
  | 4 => [0, 3]
  | 5 => [4]
  | 6 => [5]
  | 7 => [5]
  | 9 => [3, 4, 6, 8]
  | 10 => [7]
  | _ => []
def ncS : List (Nat × Option Tmp) := [(0, some 79), (1, some 80), (2, some 81), (3, some 82), (4, some 83), (5, some 78), (6, some 84), (7, some 85), (8, some 17), (9, none), (10, some 18)]
set_option maxRecDepth 100000 in
set_option maxHeartbeats 16000000 in
theorem loadNames (w : World) : Calls Try.prog 3 #[] w fun e w' => e = .returned (.bool true) ∧ Below w.heap.size w w' := by
  refine (namesA w).2 ⟨?_⟩
  intro c HAL Sm HMl HMo Sx HHx Sz HLz T12 S9 HC9 HMk Q1 wl1 w2 hm wm3 wl4 w5 h2 K1 wm6 wr u36 u37 u38 u39 u40 u41 u42 u43 u44 bn Q2 K2 a2 w8 h6 wm9 wx B1 W1 v0 v3 v4 v5 v6 v7 v8 v9 v10 w12 hx wm13 w14 hy K3 a3 wm15 E15
  refine wp_region_any mixed' ?_
  change wpAny _ _ _ _ (0 + 10) _ _ _
  refine Mix.any_gen (w := wm15) (Below.refl _ _).drew ?_
  intro wx hbx
  have E16 := Lib.hid (E15.out.next hbx)
  clear hbx
  generalize hA : Act.mk _ _ = A2
  have hszA2 : A2.tmps.size = 166 := by rw [← hA]; rfl
  have hf1 : A2.eval (.tmp 1) = .pointer (some ⟨w2.heap.size, 0, Option.none⟩) := by rw [← hA]; rfl
  have hf4 : A2.eval (.tmp 4) = .slice (some ⟨bn, 0, Option.none⟩) 9 9 := by rw [← hA]; rfl
  have HA2 := Lib.hid hA
  clear hA
  refine Mix.wpAny_dagO (Array.replicate 10 true) 0 nbS nbD (nbI wx c Sm Sz hm bn) (by decide) (by decide) ⟨Below.refl _ _, fun i v hv => (by cases hv), fun u hu => (by cases hu)⟩ ?hop (by kernel_rfl) ?tail
  case hop =>
    intro p hp B W K hI hBn hd hk
    have EW := Lib.hid (E16.out.next hI.below)
    have hf1' : (Mix.putO A2 nbS B).tmps[1]?.getD undef = .pointer (some ⟨w2.heap.size, 0, Option.none⟩) := by have := (Mix.putO_ne A2 nbS B 1 (by decide)).trans hf1; simpa [Act.eval] using this
    have hf4' : (Mix.putO A2 nbS B).tmps[4]?.getD undef = .slice (some ⟨bn, 0, Option.none⟩) 9 9 := by have := (Mix.putO_ne A2 nbS B 4 (by decide)).trans hf4; simpa [Act.eval] using this
    have hev : ∀ i d v, (i, some d) ∈ nbS → d < 166 → B i = some v → (Mix.putO A2 nbS B).tmps[d]?.getD undef = v := fun i d v h1 h2 h3 => by have := Mix.putO_eval A2 nbS B i d v (by decide) (by decide) h1 (by rw [hszA2]; exact h2) h3; simpa [Act.eval] using this
    simp only [nbS, List.mem_cons, List.not_mem_nil, or_false] at hp
    rcases hp with rfl | rfl | rfl | rfl | rfl | rfl | rfl | rfl | rfl | rfl
    · have cc := EW.out.now.2.2.2.2.2.2.2.2.1
      have c0 := cc.c 0 _ rfl; have c1 := cc.c 1 _ rfl; have c2 := cc.c 2 _ rfl; have c3 := cc.c 3 _ rfl; have c4 := cc.c 4 _ rfl; have c5 := cc.c 5 _ rfl; have c6 := cc.c 6 _ rfl; have c7 := cc.c 7 _ rfl; have c8 := cc.c 8 _ rfl; have c9 := cc.c 9 _ rfl; have c10 := cc.c 10 _ rfl; have c11 := cc.c 11 _ rfl; have c12 := cc.c 12 _ rfl; have c13 := cc.c 13 _ rfl; have c14 := cc.c 14 _ rfl
      refine Mix.wpOp_value rfl rfl (v := mval c Sm hm) (W' := W) ?_ (hk _ _ (hI.next (Below.refl _ _) rfl))
      simp [execOp, go_sem, mval, hf1', c0, c1, c2, c3, c4, c5, c6, c7, c8, c9, c10, c11, c12, c13, c14]
    · refine Mix.wpOp_value rfl rfl (v := .slice (some ⟨bn, 0, Option.none⟩) 9 9) (W' := W) ?_ (hk _ _ (hI.next (Below.refl _ _) rfl))
      simp [execOp, go_sem, hf4']
    · obtain ⟨v1, g1⟩ := hd (1, some 73) (by decide) (by decide)
      obtain rfl := hI.f 1 _ g1
      have y1 := hev 1 73 _ (by decide) (by decide) g1
      refine Mix.wpOp_value rfl rfl (v := .slice (some ⟨bn, 0, Option.none⟩) 8 9) (W' := W) ?_ (hk _ _ (hI.next (Below.refl _ _) rfl))
      simp [execOp, go_sem, y1]
    · obtain ⟨v0, g0⟩ := hd (0, some 72) (by decide) (by decide)
      obtain rfl := hI.f 0 _ g0
      have y0 := hev 0 72 _ (by decide) (by decide) g0
      obtain ⟨v2, g2⟩ := hd (2, some 74) (by decide) (by decide)
      obtain rfl := hI.f 2 _ g2
      have y2 := hev 2 74 _ (by decide) (by decide) g2
      refine Mix.wpOp_call rfl rfl (f := 5) (args := #[mval c Sm hm, .slice (some ⟨bn, 0, Option.none⟩) 8 9]) ?_ ((HLz.out hm (some ⟨bn, 0, Option.none⟩) 9 W (EW.out.now.2.2.2.2.2.2.2.2.2.1) (EW.out.now.2.2.2.2.1)).mono ?_)
      · simp [execOp, resolve, go_sem, y0, y2]
      · rintro e w' ⟨h', rfl, ho, hb'⟩
        exact ⟨_, rfl, hk _ _ (hI.next hb' ⟨h', rfl, fun _ => ⟨_, _, ho⟩⟩)⟩
    · obtain ⟨v3, g3⟩ := hd (3, some 75) (by decide) (by decide)
      obtain ⟨g', rfl, r'⟩ := hI.f 3 _ g3
      have y3 := hev 3 75 _ (by decide) (by decide) g3
      refine Mix.wpOp_value rfl rfl (v := .tuple #[mval c Sz g', .int .i64 0]) (W' := W) ?_ (hk _ _ (hI.next (Below.refl _ _) ⟨g', rfl, fun q => r' (Mix.updV_none q).2⟩))
      simp [execOp, go_sem, y3]
    · obtain ⟨v4, g4⟩ := hd (4, some 71) (by decide) (by decide)
      obtain ⟨g', rfl, r'⟩ := hI.f 4 _ g4
      have y4 := hev 4 71 _ (by decide) (by decide) g4
      refine Mix.wpOp_value rfl rfl (v := mval c Sz g') (W' := W) ?_ (hk _ _ (hI.next (Below.refl _ _) ⟨g', rfl, fun q => r' (Mix.updV_none q).2⟩))
      simp [execOp, go_sem, y4]
    · obtain ⟨v4, g4⟩ := hd (4, some 71) (by decide) (by decide)
      obtain ⟨g', rfl, r'⟩ := hI.f 4 _ g4
      have y4 := hev 4 71 _ (by decide) (by decide) g4
      refine Mix.wpOp_value rfl rfl (v := .int .i64 0) (W' := W) ?_ (hk _ _ (hI.next (Below.refl _ _) rfl))
      simp [execOp, go_sem, y4]
    · refine Mix.wpOp_value rfl rfl (v := .pointer (some ⟨W.heap.size, 0, Option.none⟩)) (W' := allocMZ W) ?_ (hk _ _ (hI.next (allocMZ_below W) ⟨_, rfl, hI.below.size, fun _ => ⟨allocMZ_bv W, TB.new W⟩⟩))
      simp [execOp, go_sem, allocMZ]
      try rfl
    · obtain ⟨v5, g5⟩ := hd (5, some 76) (by decide) (by decide)
      obtain ⟨g', rfl, r'⟩ := hI.f 5 _ g5
      have y5 := hev 5 76 _ (by decide) (by decide) g5
      obtain ⟨v7, g7⟩ := hd (7, some 15) (by decide) (by decide)
      obtain ⟨b, rfl, hlb, bx⟩ := hI.f 7 _ g7
      have y7 := hev 7 15 _ (by decide) (by decide) g7
      obtain ⟨bx1, bx2⟩ := bx hBn
      obtain ⟨lo, hi, ho⟩ := r' hBn
      have hth : W.there b 0 15 := BV.there bx1 rfl
      have hrun := store_pma W b c.tag c.most c.seg c.least c.den c.ll c.rl c.rh c.lh Sz.seg Sz.laid g'.aw g'.ak g'.av g'.ac Sz.ws.length g'.cw Sz.ks.length g'.ck Sz.vs.length g'.cv Sz.cs.length g'.cc hth
      refine Mix.wpOp_skip rfl rfl (W' := stV W b 0 [.int .u8 c.tag, .int .i64 c.most, .int .i64 c.seg, .int .i64 c.least, .int .i64 c.den, .int .i64 c.ll, .int .i64 c.rl, .int .i64 c.rh, .int .i64 c.lh, .int .i64 Sz.seg, .slice g'.aw Sz.ws.length g'.cw, .slice g'.ak Sz.ks.length g'.ck, .slice g'.av Sz.vs.length g'.cv, .slice g'.ac Sz.cs.length g'.cc, .int .u64 Sz.laid]) ?_ (hk _ _ (hI.store (stV_below hI.below hlb) ⟨b, g', g7, bx1.st rfl, mrd_store ho bx2⟩))
      rw [setCells_stV] at hrun
      have z5 := Mix.putO_eval A2 nbS B 5 76 _ (by decide) (by decide) (by decide) (by rw [hszA2]; decide) g5
      have z7 := Mix.putO_eval A2 nbS B 7 15 _ (by decide) (by decide) (by decide) (by rw [hszA2]; decide) g7
      unfold mval at z5
      clear y5 y7
      exact run_store_op rfl z7 z5 hrun
    · obtain ⟨v6, g6⟩ := hd (6, some 77) (by decide) (by decide)
      obtain rfl := hI.f 6 _ g6
      have y6 := hev 6 77 _ (by decide) (by decide) g6
      refine Mix.wpOp_value rfl rfl (v := .int .i64 0) (W' := W) ?_ (hk _ _ (hI.next (Below.refl _ _) rfl))
      simp [execOp, go_sem, y6]
  case tail =>
    intro B2 W2 hI hB
    obtain ⟨v0, g0⟩ := hB (0, some 72) (by decide)
    obtain ⟨v1, g1⟩ := hB (1, some 73) (by decide)
    obtain ⟨v2, g2⟩ := hB (2, some 74) (by decide)
    obtain ⟨v3, g3⟩ := hB (3, some 75) (by decide)
    obtain ⟨v4, g4⟩ := hB (4, some 71) (by decide)
    obtain ⟨v5, g5⟩ := hB (5, some 76) (by decide)
    obtain ⟨v6, g6⟩ := hB (6, some 77) (by decide)
    obtain ⟨v7, g7⟩ := hB (7, some 15) (by decide)
    obtain ⟨v8, g8⟩ := hB (8, none) (by decide)
    obtain ⟨v9, g9⟩ := hB (9, some 16) (by decide)
    dsimp only at g0 g1 g2 g3 g4 g5 g6 g7 g8 g9
    obtain rfl : v9 = .int .i64 0 := hI.f 9 _ g9
    obtain ⟨bz, hz, h7, hbz, hmz⟩ := hI.st _ g8
    rw [g7] at h7
    injection h7 with h7
    subst h7
    clear hB
    have EW := Lib.hid (E16.out.next hI.below)
    have E17 := EW
    clear EW
    have hAA2 := HA2.out
    subst hAA2
    clear HA2 hszA2
    simp only [nbS, Mix.putO, g0, g1, g2, g3, g4, g5, g6, g7, g8, g9]
    simp only [Act.put]
    clear g0 g1 g2 g3 g4 g5 g6 g7 g8 g9
    refine Mix.wpAny_tail [false, false, false, false, false, false, false, false, false, false] (Array.replicate 10 true) (by kernel_rfl) (by kernel_rfl) ?_
    simp only [Mix.maskL]
    have E18 := Lib.hid (((E17.out.next (Below.refl _ _)).and (St.bv hbz)).and (St.mrd hmz))
    clear hbz hmz HLz
    simp only [List.setIfInBounds_toArray, List.set_cons_succ, List.set_cons_zero]
    go_wp2_with fail
    refine wp_region_any mixed' ?_
    change wpAny _ _ _ _ (0 + 11) _ _ _
    refine Mix.any_gen (w := W2) (Below.refl _ _).drew ?_
    intro wx hbx
    have E19 := Lib.hid (E18.out.next hbx)
    clear hbx
    generalize hA : Act.mk _ _ = A3
    have hszA3 : A3.tmps.size = 166 := by rw [← hA]; rfl
    have hf15 : A3.eval (.tmp 15) = .pointer (some ⟨bz, 0, Option.none⟩) := by rw [← hA]; rfl
    have HA3 := Lib.hid hA
    clear hA
    refine Mix.wpAny_dagO (Array.replicate 11 true) 0 ncS ncD (ncI wx c Sz S9 hz) (by decide) (by decide) ⟨Below.refl _ _, fun i v hv => by cases hv⟩ ?hop (by kernel_rfl) ?tail
    case hop =>
      intro p hp B W K hI hBn hd hk
      have EW := Lib.hid (E19.out.next hI.below)
      have hf15' : (Mix.putO A3 ncS B).tmps[15]?.getD undef = .pointer (some ⟨bz, 0, Option.none⟩) := by have := (Mix.putO_ne A3 ncS B 15 (by decide)).trans hf15; simpa [Act.eval] using this
      have hev : ∀ i d v, (i, some d) ∈ ncS → d < 166 → B i = some v → (Mix.putO A3 ncS B).tmps[d]?.getD undef = v := fun i d v h1 h2 h3 => by have := Mix.putO_eval A3 ncS B i d v (by decide) (by decide) h1 (by rw [hszA3]; exact h2) h3; simpa [Act.eval] using this
      simp only [ncS, List.mem_cons, List.not_mem_nil, or_false] at hp
      rcases hp with rfl | rfl | rfl | rfl | rfl | rfl | rfl | rfl | rfl | rfl | rfl
      · have cc := EW.out.now.2.1
        have c0 := cc.c 0 _ rfl; have c1 := cc.c 1 _ rfl; have c2 := cc.c 2 _ rfl; have c3 := cc.c 3 _ rfl; have c4 := cc.c 4 _ rfl; have c5 := cc.c 5 _ rfl; have c6 := cc.c 6 _ rfl; have c7 := cc.c 7 _ rfl; have c8 := cc.c 8 _ rfl; have c9 := cc.c 9 _ rfl; have c10 := cc.c 10 _ rfl; have c11 := cc.c 11 _ rfl; have c12 := cc.c 12 _ rfl; have c13 := cc.c 13 _ rfl; have c14 := cc.c 14 _ rfl
        refine Mix.wpOp_value rfl rfl (v := mval c Sz hz) (W' := W) ?_ (hk _ _ (hI.next (Below.refl _ _) rfl))
        simp [execOp, go_sem, mval, hf15', c0, c1, c2, c3, c4, c5, c6, c7, c8, c9, c10, c11, c12, c13, c14]
      · refine Mix.wpOp_value rfl rfl (v := .agg #[.int .i64 9, .int .i64 0]) (W' := W) ?_ (hk _ _ (hI.next (Below.refl _ _) rfl))
        simp [execOp, go_sem, zero_pair]
      · obtain ⟨v1, g1⟩ := hd (1, some 80) (by decide) (by decide)
        obtain rfl := hI.f 1 _ g1
        have y1 := hev 1 80 _ (by decide) (by decide) g1
        refine Mix.wpOp_value rfl rfl (v := .slice (some ⟨W.heap.size, 0, Option.none⟩) 1 1) (W' := W.alloc (.cells #[.int .i64 9, .int .i64 0] 34)) ?_ (hk _ _ (hI.next (below_lit _ _) (fun _ => ⟨_, rfl, rd2_lits (w := W) (news := #[.int .i64 9, .int .i64 0]) (zs := [(9, 0)]) rfl rfl (by decide)⟩)))
        simp [execOp, go_sem, y1]
      · obtain ⟨v2, g2⟩ := hd (2, some 81) (by decide) (by decide)
        obtain ⟨a2, rfl, r2⟩ := hI.f 2 _ g2 hBn
        have y2 := hev 2 81 _ (by decide) (by decide) g2
        refine Mix.wpOp_call rfl rfl (f := 4) (args := #[.slice (some a2) 1 1]) ?_ ((HC9.out (some a2) 1 W r2).mono ?_)
        · simp [execOp, resolve, go_sem, y2]
        · rintro e w' ⟨h', rfl, ho, hb'⟩
          exact ⟨_, rfl, hk _ _ (hI.next hb' (fun _ => ⟨h', rfl, SOwn.mrd ho⟩))⟩
      · obtain ⟨v0, g0⟩ := hd (0, some 79) (by decide) (by decide)
        obtain rfl := hI.f 0 _ g0
        have y0 := hev 0 79 _ (by decide) (by decide) g0
        obtain ⟨v3, g3⟩ := hd (3, some 82) (by decide) (by decide)
        obtain ⟨g3', rfl, r3⟩ := hI.f 3 _ g3 hBn
        have y3 := hev 3 82 _ (by decide) (by decide) g3
        refine Mix.wpOp_call rfl rfl (f := 8) (args := #[mval c Sz hz, mval c S9 g3']) ?_ ((HMk.out hz g3' W (EW.out.now.1) r3).mono ?_)
        · simp [execOp, resolve, go_sem, y0, y3]
        · rintro e w' ⟨h', rfl, ho, hb'⟩
          exact ⟨_, rfl, hk _ _ (hI.next hb' ⟨h', rfl⟩)⟩
      · obtain ⟨v4, g4⟩ := hd (4, some 83) (by decide) (by decide)
        obtain ⟨h', rfl⟩ := hI.f 4 _ g4
        have y4 := hev 4 83 _ (by decide) (by decide) g4
        refine Mix.wpOp_value rfl rfl (v := .tuple #[mval cz noneS h', .int .i64 9]) (W' := W) ?_ (hk _ _ (hI.next (Below.refl _ _) ⟨h', rfl⟩))
        simp [execOp, go_sem, y4]
      · obtain ⟨v5, g5⟩ := hd (5, some 78) (by decide) (by decide)
        obtain ⟨h', rfl⟩ := hI.f 5 _ g5
        have y5 := hev 5 78 _ (by decide) (by decide) g5
        refine Mix.wpOp_value rfl rfl (v := mval cz noneS h') (W' := W) ?_ (hk _ _ (hI.next (Below.refl _ _) ⟨h', rfl⟩))
        simp [execOp, go_sem, y5]
      · obtain ⟨v5, g5⟩ := hd (5, some 78) (by decide) (by decide)
        obtain ⟨h', rfl⟩ := hI.f 5 _ g5
        have y5 := hev 5 78 _ (by decide) (by decide) g5
        refine Mix.wpOp_value rfl rfl (v := .int .i64 9) (W' := W) ?_ (hk _ _ (hI.next (Below.refl _ _) rfl))
        simp [execOp, go_sem, y5]
      · refine Mix.wpOp_value rfl rfl (v := .pointer (some ⟨W.heap.size, 0, Option.none⟩)) (W' := allocMZ W) ?_ (hk _ _ (hI.next (allocMZ_below W) ⟨_, rfl, hI.below.size, fun _ => ⟨allocMZ_bv W, TB.new W⟩⟩))
        simp [execOp, go_sem, allocMZ]
        try rfl
      · obtain ⟨v3, g3⟩ := hd (3, some 82) (by decide) (by decide)
        obtain ⟨v4, g4⟩ := hd (4, some 83) (by decide) (by decide)
        obtain ⟨v6, g6⟩ := hd (6, some 84) (by decide) (by decide)
        obtain ⟨h', rfl⟩ := hI.f 6 _ g6
        have y6 := hev 6 84 _ (by decide) (by decide) g6
        obtain ⟨v8, g8⟩ := hd (8, some 17) (by decide) (by decide)
        obtain ⟨b, rfl, hlb, bx⟩ := hI.f 8 _ g8
        have y8 := hev 8 17 _ (by decide) (by decide) g8
        obtain ⟨bx1, bx2⟩ := bx hBn
        have hth : W.there b 0 15 := BV.there bx1 rfl
        have hrun := store_pma W b cz.tag cz.most cz.seg cz.least cz.den cz.ll cz.rl cz.rh cz.lh noneS.seg noneS.laid h'.aw h'.ak h'.av h'.ac noneS.ws.length h'.cw noneS.ks.length h'.ck noneS.vs.length h'.cv noneS.cs.length h'.cc hth
        refine Mix.wpOp_skip rfl rfl (W' := stV W b 0 [.int .u8 cz.tag, .int .i64 cz.most, .int .i64 cz.seg, .int .i64 cz.least, .int .i64 cz.den, .int .i64 cz.ll, .int .i64 cz.rl, .int .i64 cz.rh, .int .i64 cz.lh, .int .i64 noneS.seg, .slice h'.aw noneS.ws.length h'.cw, .slice h'.ak noneS.ks.length h'.ck, .slice h'.av noneS.vs.length h'.cv, .slice h'.ac noneS.cs.length h'.cc, .int .u64 noneS.laid]) ?_ (hk _ _ (hI.store (stV_below hI.below hlb) (by rw [g3]; simp) (by rw [g4]; simp)))
        rw [setCells_stV] at hrun
        have z6 := Mix.putO_eval A3 ncS B 6 84 _ (by decide) (by decide) (by decide) (by rw [hszA3]; decide) g6
        have z8 := Mix.putO_eval A3 ncS B 8 17 _ (by decide) (by decide) (by decide) (by rw [hszA3]; decide) g8
        unfold mval at z6
        clear y6 y8
        exact run_store_op rfl z8 z6 hrun
      · obtain ⟨v7, g7⟩ := hd (7, some 85) (by decide) (by decide)
        obtain rfl := hI.f 7 _ g7
        have y7 := hev 7 85 _ (by decide) (by decide) g7
        refine Mix.wpOp_value rfl rfl (v := .int .i64 9) (W' := W) ?_ (hk _ _ (hI.next (Below.refl _ _) rfl))
        simp [execOp, go_sem, y7]
    case tail =>
      intro B3 W3 hI hB
      obtain ⟨v0, g0⟩ := hB (0, some 79) (by decide)
      obtain ⟨v1, g1⟩ := hB (1, some 80) (by decide)
      obtain ⟨v2, g2⟩ := hB (2, some 81) (by decide)
      obtain ⟨v3, g3⟩ := hB (3, some 82) (by decide)
      obtain ⟨v4, g4⟩ := hB (4, some 83) (by decide)
      obtain ⟨v5, g5⟩ := hB (5, some 78) (by decide)
      obtain ⟨v6, g6⟩ := hB (6, some 84) (by decide)
      obtain ⟨v7, g7⟩ := hB (7, some 85) (by decide)
      obtain ⟨v8, g8⟩ := hB (8, some 17) (by decide)
      obtain ⟨v9, g9⟩ := hB (9, none) (by decide)
      obtain ⟨v10, g10⟩ := hB (10, some 18) (by decide)
      dsimp only at g0 g1 g2 g3 g4 g5 g6 g7 g8 g9 g10
      obtain rfl : v10 = .int .i64 9 := hI.f 10 _ g10
      clear hB
      have EW := Lib.hid (E19.out.next hI.below)
      have E20 := EW
      clear EW
      have hAA3 := HA3.out
      subst hAA3
      clear HA3 hszA3
      simp only [ncS, Mix.putO, g0, g1, g2, g3, g4, g5, g6, g7, g8, g9, g10]
      simp only [Act.put]
      clear g0 g1 g2 g3 g4 g5 g6 g7 g8 g9 g10
      refine Mix.wpAny_tail [false, false, false, false, false, false, false, false, false, false, false] (Array.replicate 11 true) (by kernel_rfl) (by kernel_rfl) ?_
      simp only [Mix.maskL]
      clear HMk HC9
      obtain ⟨-, -, -, -, -, -, -, -, -, -, bm_v, -, -, -, -⟩ := E20.out.now
      have bm_0 := bm_v.c 0 _ rfl; have bm_1 := bm_v.c 1 _ rfl; have bm_2 := bm_v.c 2 _ rfl; have bm_3 := bm_v.c 3 _ rfl; have bm_4 := bm_v.c 4 _ rfl; have bm_5 := bm_v.c 5 _ rfl; have bm_6 := bm_v.c 6 _ rfl; have bm_7 := bm_v.c 7 _ rfl; have bm_8 := bm_v.c 8 _ rfl; have bm_9 := bm_v.c 9 _ rfl; have bm_10 := bm_v.c 10 _ rfl; have bm_11 := bm_v.c 11 _ rfl; have bm_12 := bm_v.c 12 _ rfl; have bm_13 := bm_v.c 13 _ rfl; have bm_14 := bm_v.c 14 _ rfl; have bm_l := bm_v.lt
      clear bm_v
      go_wp2_with fail
      clear bm_0 bm_1 bm_2 bm_3 bm_4 bm_5 bm_6 bm_7 bm_8 bm_9 bm_10 bm_11 bm_12 bm_13 bm_14 bm_l
      refine (HMl.out hm _).mono ?_
      rintro e w21 ⟨h19, rfl, ho, hb⟩
      have E21 := Lib.hid (E20.out.next hb)
      clear hb
      clear ho HMl
      have HBX := (E21.out.now.2.2.2.2.2.2.2.2.2.2.1).next (allocM_below w21 cz noneS h19)
      go_wp2_with (first | (refine wpList_store_newmap _ _ rfl rfl rfl rfl ?_) | (refine wpList_load_map _ rfl rfl rfl HBX rfl ?_))
      clear HBX
      rw [allocM_fold]
      have hz21 := allocM_size w21 cz noneS h19
      have E22 := Lib.hid ((E21.out.next (allocM_below w21 cz noneS h19)).and (St.bv (allocM_bv w21 cz noneS h19)))
      generalize allocM w21 cz noneS h19 = wm22 at *
      clear hz21
      refine (HMo.out hm _ E22.out.now.2.2.2.2.2.2.2.2.2.2.2.2.1).mono ?_
      rintro e w23 ⟨h21, rfl, ho, hb⟩
      have E23 := Lib.hid (E22.out.next hb)
      clear hb
      clear ho HMo
      go_wp2_with (first | (refine wpList_store_newmap _ _ rfl rfl rfl rfl ?_))
      rw [allocM_fold]
      have hz23 := allocM_size w23 cz noneS h21
      have E24 := Lib.hid ((E23.out.next (allocM_below w23 cz noneS h21)).and (St.bv (allocM_bv w23 cz noneS h21)))
      generalize allocM w23 cz noneS h21 = wm24 at *
      clear hz23
      refine (HAL.out _).mono ?_
      rintro e w25 ⟨rfl, hb⟩
      have E25 := Lib.hid (E24.out.next hb)
      clear hb
      obtain ⟨-, -, -, -, -, bx_v, -, -, -, -, -, -, -, -, -, -, -⟩ := E25.out.now
      have bx_0 := bx_v.c 0 _ rfl; have bx_1 := bx_v.c 1 _ rfl; have bx_2 := bx_v.c 2 _ rfl; have bx_3 := bx_v.c 3 _ rfl; have bx_4 := bx_v.c 4 _ rfl; have bx_5 := bx_v.c 5 _ rfl; have bx_6 := bx_v.c 6 _ rfl; have bx_7 := bx_v.c 7 _ rfl; have bx_8 := bx_v.c 8 _ rfl; have bx_9 := bx_v.c 9 _ rfl; have bx_10 := bx_v.c 10 _ rfl; have bx_11 := bx_v.c 11 _ rfl; have bx_12 := bx_v.c 12 _ rfl; have bx_13 := bx_v.c 13 _ rfl; have bx_14 := bx_v.c 14 _ rfl; have bx_l := bx_v.lt
      clear bx_v
      go_wp2_with fail
      clear bx_0 bx_1 bx_2 bx_3 bx_4 bx_5 bx_6 bx_7 bx_8 bx_9 bx_10 bx_11 bx_12 bx_13 bx_14 bx_l
      have E26 := Lib.hid ((E25.out.next (below_lit w25 (.cells #[.int .i64 1, .int .i64 0, .int .i64 2, .int .i64 0] 34))).and (St.rd2 (by have hl := rd2_lits (w := w25) (news := #[.int .i64 1, .int .i64 0, .int .i64 2, .int .i64 0]) (zs := [(1, 0), (2, 0)]) rfl rfl (by decide); exact hl)))
      generalize w25.alloc (.cells #[.int .i64 1, .int .i64 0, .int .i64 2, .int .i64 0] 34) = wl26 at *
      refine (HHx.out hx _ _ _ (SOwn.mrd E26.out.now.2.2.2.2.2.2.2.1) E26.out.now.1).mono ?_
      rintro e w27 ⟨rfl, hb⟩
      have E27 := Lib.hid (E26.out.next hb)
      clear hb
      obtain ⟨t1, t2⟩ := T12.out
      obtain ⟨-, -, -, -, bz_v, by_v, bx_v, -, -, -, -, -, -, -, -, -, -, -⟩ := E27.out.now
      have bx_0 := bx_v.c 0 _ rfl; have bx_1 := bx_v.c 1 _ rfl; have bx_2 := bx_v.c 2 _ rfl; have bx_3 := bx_v.c 3 _ rfl; have bx_4 := bx_v.c 4 _ rfl; have bx_5 := bx_v.c 5 _ rfl; have bx_6 := bx_v.c 6 _ rfl; have bx_7 := bx_v.c 7 _ rfl; have bx_8 := bx_v.c 8 _ rfl; have bx_9 := bx_v.c 9 _ rfl; have bx_10 := bx_v.c 10 _ rfl; have bx_11 := bx_v.c 11 _ rfl; have bx_12 := bx_v.c 12 _ rfl; have bx_13 := bx_v.c 13 _ rfl; have bx_14 := bx_v.c 14 _ rfl; have bx_l := bx_v.lt
      clear bx_v
      have by_0 := by_v.c 0 _ rfl; have by_1 := by_v.c 1 _ rfl; have by_2 := by_v.c 2 _ rfl; have by_3 := by_v.c 3 _ rfl; have by_4 := by_v.c 4 _ rfl; have by_5 := by_v.c 5 _ rfl; have by_6 := by_v.c 6 _ rfl; have by_7 := by_v.c 7 _ rfl; have by_8 := by_v.c 8 _ rfl; have by_9 := by_v.c 9 _ rfl; have by_10 := by_v.c 10 _ rfl; have by_11 := by_v.c 11 _ rfl; have by_12 := by_v.c 12 _ rfl; have by_13 := by_v.c 13 _ rfl; have by_14 := by_v.c 14 _ rfl; have by_l := by_v.lt
      clear by_v
      have bz_0 := bz_v.c 0 _ rfl; have bz_1 := bz_v.c 1 _ rfl; have bz_2 := bz_v.c 2 _ rfl; have bz_3 := bz_v.c 3 _ rfl; have bz_4 := bz_v.c 4 _ rfl; have bz_5 := bz_v.c 5 _ rfl; have bz_6 := bz_v.c 6 _ rfl; have bz_7 := bz_v.c 7 _ rfl; have bz_8 := bz_v.c 8 _ rfl; have bz_9 := bz_v.c 9 _ rfl; have bz_10 := bz_v.c 10 _ rfl; have bz_11 := bz_v.c 11 _ rfl; have bz_12 := bz_v.c 12 _ rfl; have bz_13 := bz_v.c 13 _ rfl; have bz_14 := bz_v.c 14 _ rfl; have bz_l := bz_v.lt
      clear bz_v
      go_wp2_with fail
      go_ret
      exact ⟨by simp, E27.out.now.2.2.2.2.2.2.2.2.2.2.2.2.2.2.2.2.2⟩
end Go.Proofs.Ytiemfklonhlnnaa.Load
