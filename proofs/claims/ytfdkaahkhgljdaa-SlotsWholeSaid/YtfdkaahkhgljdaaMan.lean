/- Contracts of package slots' laws: SamePairs; what is spoiled. What the laws of slots are told: gapped arrays that came in; what stays between their calls. How arguments are opened that are structs of integers and slices of integers, or slices of pairs: no program in sight. Pairs that can be read, behind a row of the call's own. The law package's examples and questions: alive, is. -/
import Derived.Test.YtfdkaahkhgljdaaMam
import Derived.Deep.SlicePairs
import Derived.Laws.AppendOwnNone
namespace Go.Proofs.Ytfdkaahkhgljdaa.Slo
open Go.RowKit Go.Shelf Go.Sort Go.Proofs.Ytfdkaahkhgljdaa Go.Proofs.Ytfdkaahkhgljdaa.Occ Go.Proofs.Ytfdkaahkhgljdaa.Frac
attribute [local go_sem] Oper.semAt_some

/-- '==' of two pairs. -/
theorem run_equal_pair (w : World) (x1 x2 y1 y2 : Int) : (Op.equalIn 10000 43 (.agg #[.int .i64 x1, .int .i64 x2]) (.agg #[.int .i64 y1, .int .i64 y2])).run Try.prog w = .ok (x1 == y1 && x2 == y2) w := by
  rw [show (10000 : Nat) = 9999 + 1 from rfl, run_equalIn_struct w 9999 _ _ _ (by kernel_rfl) (by kernel_rfl)]
  rw [show (Try.prog.fieldsOf 43).toList = [⟨ "Key", 2, 0, false, "", "", 0⟩, ⟨ "Val", 2, 1, false, "", "", 8⟩] by kernel_rfl]
  have h1 := run_equalIn_int (P := Try.prog) w 9998 2 .i64 .i64 x1 y1 Try.underlying2
  have h2 := run_equalIn_int (P := Try.prog) w 9998 2 .i64 .i64 x2 y2 Try.underlying2
  simp [Op.eqFields, go_sem, part]
  by_cases e1 : x1 = y1 <;> by_cases e2 : x2 = y2 <;> simp [e1, e2]
theorem take_snoc2 (zs : List (Int × Int)) (k : Nat) (h : k < zs.length) : zs.take (k + 1) = zs.take k ++ [zs.getD k (0, 0)] := by
  rw [List.take_succ_eq_append_getElem h]; simp [List.getD_eq_getElem?_getD, h]

set_option maxRecDepth 100000 in
set_option maxHeartbeats 2000000 in
theorem samePairs_any (a b : Option Addr) (ca cb : Nat) (xs ys : List (Int × Int)) (w : World) (hr : Rd2 w a xs) (hs : Rd2 w b ys) (hl : xs.length ≤ 1000000) (hl2 : ys.length ≤ 1000000) :
    Calls Try.prog 17 #[.slice a xs.length ca, .slice b ys.length cb] w fun e w' => e = .returned (.bool (decide (xs = ys))) ∧ Below w.heap.size w w' := by
  have hgd : Try.prog.eqGuardType Try.prog.depth 43 = false := by kernel_rfl
  by_cases hn : xs.length = ys.length
  · have HN := Lib.hid hn
    have hne : ((xs.length : Int) != (ys.length : Int)) = false := by simp [hn]
    clear hn
    go_enter Try.func17, Try.ntmps17
    go_wp2
    go_loopw [5] (fun i wr => ∃ k : Nat, k ≤ xs.length ∧ i = .int .i64 k ∧ xs.take k = ys.take k ∧ Below w.heap.size w wr) (fun i _ => xs.length - (intOf i).toNat)
    case atStart => exact ⟨0, Nat.zero_le _, rfl, rfl, Below.refl _ _⟩
    case round =>
      obtain ⟨k, hk, rfl, heq, hbl⟩ := hrel
      have HE := Lib.hid heq
      have HB := Lib.hid hbl
      clear heq
      by_cases hlt : k < xs.length
      · have hlt2 : k < ys.length := by have := HN.out; omega
        obtain ⟨b1, o1, rfl, c1, d1⟩ := Rd2.at hr hbl (Nat.le_refl _) hlt
        obtain ⟨b2, o2, rfl, c2, d2⟩ := Rd2.at hs hbl (Nat.le_refl _) hlt2
        have HX := Lib.hid (take_snoc2 xs k hlt)
        have HY := Lib.hid (take_snoc2 ys k hlt2)
        have HD : Hid (xs = ys → xs.getD k (0, 0) = ys.getD k (0, 0)) := Lib.hid (fun h => by rw [h])
        clear hbl hr hs
        generalize xs.getD k (0, 0) = x at *
        generalize ys.getD k (0, 0) = y at *
        obtain ⟨x1, x2⟩ := x
        obtain ⟨y1, y2⟩ := y
        dsimp only at c1 d1 c2 d2
        have hq : ∀ w : World, (Op.equalIn 10000 43 (.agg #[.int .i64 x1, .int .i64 x2]) (.agg #[.int .i64 y1, .int .i64 y2])).run Try.prog w = .ok (x1 == y1 && x2 == y2) w := fun w => run_equal_pair w x1 x2 y1 y2
        by_cases hxy : x1 = y1 ∧ x2 = y2
        · obtain ⟨rfl, rfl⟩ := hxy
          go_wp2
          refine still_lit mixed' (by kernel_rfl) ?_
          repeat still_step
          refine wpStill_nil ?_
          go_wp2
          go_roundw
          case rel => exact ⟨k + 1, by omega, by go_num, by rw [HX.out, HY.out, HE.out], HB.out.drew⟩
          case measure => simp [intOf]; omega
        · have hb : (x1 == y1 && x2 == y2) = false := by
            rw [Bool.eq_false_iff]; intro g; simp at g; exact hxy g
          have HF : Hid (decide (xs = ys) = false) := Lib.hid (by
            rw [decide_eq_false_iff_not]
            intro g
            have := HD.out g
            simp only [Prod.mk.injEq] at this
            exact hxy this)
          rw [hb] at hq
          clear hxy hb
          go_wp2
          refine still_lit mixed' (by kernel_rfl) ?_
          repeat still_step
          refine wpStill_nil ?_
          go_wp2
          go_ret
          exact ⟨ret_b HF.out.symm, HB.out.drew⟩
      · obtain rfl : k = xs.length := by omega
        have HF : Hid (decide (xs = ys) = true) := Lib.hid (by
          rw [decide_eq_true_eq]
          have h := HE.out
          rw [List.take_of_length_le (Nat.le_refl _), List.take_of_length_le (by have := HN.out; omega)] at h
          exact h)
        clear hr hs hbl
        go_wp2
        go_ret
        exact ⟨ret_b HF.out.symm, HB.out⟩
  · have HF : Hid (decide (xs = ys) = false) := Lib.hid (by rw [decide_eq_false_iff_not]; exact fun h => hn (by rw [h]))
    have hne : ((xs.length : Int) != (ys.length : Int)) = true := by rw [bne_iff_ne]; omega
    clear hr hs hn
    go_enter Try.func17, Try.ntmps17
    go_wp2
    go_ret
    exact ⟨ret_b HF.out.symm, Below.refl _ _⟩
theorem SOwn.st_w {w : World} {lo hi : Nat} {s : Sl} {h : Hd} (o : SOwn w lo hi s h) {g j : Nat} (x : Int) (hg : h.aw = some ⟨g, 0, Option.none⟩) : SOwn (w.setCell ⟨g, j, Option.none⟩ (.int .u64 x)) lo hi { s with ws := s.ws.set j x } h := by
  have hn : ∀ a, Ap h.aw a → bl a ≠ some g := fun a ha => ha g (by rw [hg]; rfl)
  have ow := o.ow
  rw [hg] at ow
  refine ⟨?_, own_other o.ok _ _ (hn _ o.wk), own_other o.ov _ _ (hn _ o.wv), own_other o.oc _ _ (hn _ o.wc), o.hw, o.hk, o.hv, o.hc, o.wk, o.wv, o.wc, o.kv, o.kc, o.vc⟩
  show World.ownsRow _ _ _ _ (.slice h.aw (s.ws.set j x).length h.cw) (s.ws.set j x).length (numsK .u64 (s.ws.set j x))
  rw [hg, List.length_set, numsK_set]; exact (ow.stored j _).1
theorem SOwn.st_k {w : World} {lo hi : Nat} {s : Sl} {h : Hd} (o : SOwn w lo hi s h) {g j : Nat} (x : Int) (hg : h.ak = some ⟨g, 0, Option.none⟩) : SOwn (w.setCell ⟨g, j, Option.none⟩ (.int .i64 x)) lo hi { s with ks := s.ks.set j x } h := by
  have hn : ∀ a, Ap h.ak a → bl a ≠ some g := fun a ha => ha g (by rw [hg]; rfl)
  have ow := o.ok
  rw [hg] at ow
  refine ⟨own_other o.ow _ _ (hn _ o.wk.symm), ?_, own_other o.ov _ _ (hn _ o.kv), own_other o.oc _ _ (hn _ o.kc), o.hw, o.hk, o.hv, o.hc, o.wk, o.wv, o.wc, o.kv, o.kc, o.vc⟩
  show World.ownsRow _ _ _ _ (.slice h.ak (s.ks.set j x).length h.ck) (s.ks.set j x).length (numsK .i64 (s.ks.set j x))
  rw [hg, List.length_set, numsK_set]; exact (ow.stored j _).1
theorem SOwn.st_v {w : World} {lo hi : Nat} {s : Sl} {h : Hd} (o : SOwn w lo hi s h) {g j : Nat} (x : Int) (hg : h.av = some ⟨g, 0, Option.none⟩) : SOwn (w.setCell ⟨g, j, Option.none⟩ (.int .i64 x)) lo hi { s with vs := s.vs.set j x } h := by
  have hn : ∀ a, Ap h.av a → bl a ≠ some g := fun a ha => ha g (by rw [hg]; rfl)
  have ow := o.ov
  rw [hg] at ow
  refine ⟨own_other o.ow _ _ (hn _ o.wv.symm), own_other o.ok _ _ (hn _ o.kv.symm), ?_, own_other o.oc _ _ (hn _ o.vc), o.hw, o.hk, o.hv, o.hc, o.wk, o.wv, o.wc, o.kv, o.kc, o.vc⟩
  show World.ownsRow _ _ _ _ (.slice h.av (s.vs.set j x).length h.cv) (s.vs.set j x).length (numsK .i64 (s.vs.set j x))
  rw [hg, List.length_set, numsK_set]; exact (ow.stored j _).1
theorem SOwn.st_c {w : World} {lo hi : Nat} {s : Sl} {h : Hd} (o : SOwn w lo hi s h) {g j : Nat} (x : Int) (hg : h.ac = some ⟨g, 0, Option.none⟩) : SOwn (w.setCell ⟨g, j, Option.none⟩ (.int .i64 x)) lo hi { s with cs := s.cs.set j x } h := by
  have hn : ∀ a, Ap h.ac a → bl a ≠ some g := fun a ha => ha g (by rw [hg]; rfl)
  have ow := o.oc
  rw [hg] at ow
  refine ⟨own_other o.ow _ _ (hn _ o.wc.symm), own_other o.ok _ _ (hn _ o.kc.symm), own_other o.ov _ _ (hn _ o.vc.symm), ?_, o.hw, o.hk, o.hv, o.hc, o.wk, o.wv, o.wc, o.kv, o.kc, o.vc⟩
  show World.ownsRow _ _ _ _ (.slice h.ac (s.cs.set j x).length h.cc) (s.cs.set j x).length (numsK .i64 (s.cs.set j x))
  rw [hg, List.length_set, numsK_set]; exact (ow.stored j _).1

/-- What a law that spoils keeps: the rows are of their lengths, the struct stays, and what does not belong to the rows. -/
structure Sp (w wr : World) (lo hi b : Nat) (s : Sl) (h : Hd) : Prop where
  own : ∃ o : Sl, (o.ws.length = s.ws.length ∧ o.ks.length = s.ks.length ∧ o.vs.length = s.vs.length ∧ o.cs.length = s.cs.length) ∧ SOwn wr lo hi o h
  box : BoxS wr b s h
  keeps : Keeps lo hi w.heap.size w wr
theorem keeps_store {n0 lo hi g j : Nat} {w wr : World} {u : Value} (k : Keeps n0 lo hi w wr) (h1 : n0 ≤ g) (h2 : g < lo) : Keeps n0 lo hi w (wr.setCell ⟨g, j, Option.none⟩ u) :=
  ⟨k.below.setCell h1 _, fun i hi hi2 => (heap_setCell_other _ _ _ _ (fun e => by simp at e; omega)).trans (k.kept i hi hi2)⟩
theorem keeps_drew' {n0 lo hi : Nat} {w wr : World} (k : Keeps n0 lo hi w wr) : Keeps n0 lo hi w wr.drew := ⟨k.below.drew, k.kept⟩
theorem Sp.at_w {w wr : World} {lo hi b j : Nat} {s : Sl} {h : Hd} (S : Sp w wr lo hi b s h) (hb : hi ≤ b) (hj : j < s.ws.length) :
    ∃ g v, h.aw = some ⟨g, 0, Option.none⟩ ∧ wr.cell? ⟨g, j, Option.none⟩ = some (.int .u64 v) ∧ wr.frozen? ⟨g, j, Option.none⟩ = false ∧ lo ≤ g ∧ ∀ x, Sp w (wr.setCell ⟨g, j, Option.none⟩ (.int .u64 x)) lo hi b s h := by
  obtain ⟨o, ⟨l1, l2, l3, l4⟩, ho⟩ := S.own
  obtain ⟨g, e, c, f, l⟩ := own_open ho.ow (j := j) (by omega)
  have hg : g < hi := ho.hw g (by rw [e]; rfl)
  refine ⟨g, _, e, c, f, l, fun x => ⟨⟨_, ?_, ho.st_w (j := j) x e⟩, S.box.other _ _ (by show g ≠ b; omega), keeps_store S.keeps l hg⟩⟩
  simp only [List.length_set]; exact ⟨l1, l2, l3, l4⟩
theorem Sp.at_k {w wr : World} {lo hi b j : Nat} {s : Sl} {h : Hd} (S : Sp w wr lo hi b s h) (hb : hi ≤ b) (hj : j < s.ks.length) :
    ∃ g v, h.ak = some ⟨g, 0, Option.none⟩ ∧ wr.cell? ⟨g, j, Option.none⟩ = some (.int .i64 v) ∧ wr.frozen? ⟨g, j, Option.none⟩ = false ∧ lo ≤ g ∧ ∀ x, Sp w (wr.setCell ⟨g, j, Option.none⟩ (.int .i64 x)) lo hi b s h := by
  obtain ⟨o, ⟨l1, l2, l3, l4⟩, ho⟩ := S.own
  obtain ⟨g, e, c, f, l⟩ := own_open ho.ok (j := j) (by omega)
  have hg : g < hi := ho.hk g (by rw [e]; rfl)
  refine ⟨g, _, e, c, f, l, fun x => ⟨⟨_, ?_, ho.st_k (j := j) x e⟩, S.box.other _ _ (by show g ≠ b; omega), keeps_store S.keeps l hg⟩⟩
  simp only [List.length_set]; exact ⟨l1, l2, l3, l4⟩
theorem Sp.at_v {w wr : World} {lo hi b j : Nat} {s : Sl} {h : Hd} (S : Sp w wr lo hi b s h) (hb : hi ≤ b) (hj : j < s.vs.length) :
    ∃ g v, h.av = some ⟨g, 0, Option.none⟩ ∧ wr.cell? ⟨g, j, Option.none⟩ = some (.int .i64 v) ∧ wr.frozen? ⟨g, j, Option.none⟩ = false ∧ lo ≤ g ∧ ∀ x, Sp w (wr.setCell ⟨g, j, Option.none⟩ (.int .i64 x)) lo hi b s h := by
  obtain ⟨o, ⟨l1, l2, l3, l4⟩, ho⟩ := S.own
  obtain ⟨g, e, c, f, l⟩ := own_open ho.ov (j := j) (by omega)
  have hg : g < hi := ho.hv g (by rw [e]; rfl)
  refine ⟨g, _, e, c, f, l, fun x => ⟨⟨_, ?_, ho.st_v (j := j) x e⟩, S.box.other _ _ (by show g ≠ b; omega), keeps_store S.keeps l hg⟩⟩
  simp only [List.length_set]; exact ⟨l1, l2, l3, l4⟩
theorem Sp.at_c {w wr : World} {lo hi b j : Nat} {s : Sl} {h : Hd} (S : Sp w wr lo hi b s h) (hb : hi ≤ b) (hj : j < s.cs.length) :
    ∃ g v, h.ac = some ⟨g, 0, Option.none⟩ ∧ wr.cell? ⟨g, j, Option.none⟩ = some (.int .i64 v) ∧ wr.frozen? ⟨g, j, Option.none⟩ = false ∧ lo ≤ g ∧ ∀ x, Sp w (wr.setCell ⟨g, j, Option.none⟩ (.int .i64 x)) lo hi b s h := by
  obtain ⟨o, ⟨l1, l2, l3, l4⟩, ho⟩ := S.own
  obtain ⟨g, e, c, f, l⟩ := own_open ho.oc (j := j) (by omega)
  have hg : g < hi := ho.hc g (by rw [e]; rfl)
  refine ⟨g, _, e, c, f, l, fun x => ⟨⟨_, ?_, ho.st_c (j := j) x e⟩, S.box.other _ _ (by show g ≠ b; omega), keeps_store S.keeps l hg⟩⟩
  simp only [List.length_set]; exact ⟨l1, l2, l3, l4⟩

set_option maxRecDepth 100000 in
set_option maxHeartbeats 4000000 in
theorem spoil_any (s : Sl) (h : Hd) (lo hi : Nat) (w : World) (O : SOwn w lo hi s h) (hlo : lo ≤ hi) (hhi : hi ≤ w.heap.size) (l1 : s.ws.length ≤ 1000000) (l2 : s.ks.length ≤ 1000000) (l3 : s.vs.length ≤ 1000000) (l4 : s.cs.length ≤ 1000000) :
    Calls Try.prog 15 #[sval s h] w fun e w' => e = .returned (.tuple #[]) ∧ Keeps lo hi w.heap.size w w' := by
  have HS0 : Hid (Sp w (w.alloc (.cells #[.int .i64 s.seg, .slice h.aw s.ws.length h.cw, .slice h.ak s.ks.length h.ck, .slice h.av s.vs.length h.cv, .slice h.ac s.cs.length h.cc, .int .u64 s.laid] 27)) lo hi w.heap.size s h) := Lib.hid
    ⟨⟨s, ⟨rfl, rfl, rfl, rfl⟩, O.below ((Below.refl _ w).alloc (Nat.le_refl _) _)⟩, BoxC.new w _ _ _ _ _ _ _, Keeps.of_below ((Below.refl w.heap.size w).alloc (Nat.le_refl _) _) (Nat.le_trans hlo hhi) (Nat.le_refl _)⟩
  clear O
  unfold sval
  go_enter Try.func15, Try.ntmps15
  go_wp2
  generalize w.alloc (.cells #[.int .i64 s.seg, .slice h.aw s.ws.length h.cw, .slice h.ak s.ks.length h.ck, .slice h.av s.vs.length h.cv, .slice h.ac s.cs.length h.cc, .int .u64 s.laid] 27) = w0 at *
  go_loopw [2] (fun i wr => ∃ k : Nat, k ≤ s.ws.length ∧ i = .int .i64 (k : Int) ∧ Sp w wr lo hi w.heap.size s h) (fun i _ => s.ws.length - (intOf i).toNat)
  case atStart => exact ⟨0, Nat.zero_le _, rfl, HS0.out⟩
  case round =>
    obtain ⟨k, hk, rfl, hS⟩ := hrel
    have HS := Lib.hid hS
    have c1 := hS.box.c1
    clear hS
    by_cases hlt : k < s.ws.length
    · obtain ⟨g, v, eg, cg, fg, lg, hT⟩ := HS.out.at_w hhi hlt
      have HT := Lib.hid (hT 7)
      rw [eg] at c1
      clear eg hT
      go_wp2
      go_roundw
      case rel => exact ⟨k + 1, by omega, by go_num, HT.out⟩
      case measure => simp [intOf]; omega
    · have hnl : ¬ ((k : Int) < (s.ws.length : Int)) := by omega
      go_wp2
      clear c1 hnl hlt hk
      go_loopw [3] (fun i wr => ∃ k : Nat, k ≤ s.ks.length ∧ i = .int .i64 (k : Int) ∧ Sp w wr lo hi w.heap.size s h) (fun i _ => s.ks.length - (intOf i).toNat)
      case atStart => exact ⟨0, Nat.zero_le _, rfl, HS.out⟩
      case round =>
        obtain ⟨k, hk, rfl, hS⟩ := hrel
        have HS := Lib.hid hS
        have c2 := hS.box.c2
        clear hS
        by_cases hlt : k < s.ks.length
        · obtain ⟨g, v, eg, cg, fg, lg, hT⟩ := HS.out.at_k hhi hlt
          have HT := Lib.hid (hT (-7))
          rw [eg] at c2
          clear eg hT
          go_wp2
          go_roundw
          case rel => exact ⟨k + 1, by omega, by go_num, HT.out⟩
          case measure => simp [intOf]; omega
        · have hnl : ¬ ((k : Int) < (s.ks.length : Int)) := by omega
          go_wp2
          clear c2 hnl hlt hk
          go_loopw [4] (fun i wr => ∃ k : Nat, k ≤ s.vs.length ∧ i = .int .i64 (k : Int) ∧ Sp w wr lo hi w.heap.size s h) (fun i _ => s.vs.length - (intOf i).toNat)
          case atStart => exact ⟨0, Nat.zero_le _, rfl, HS.out⟩
          case round =>
            obtain ⟨k, hk, rfl, hS⟩ := hrel
            have HS := Lib.hid hS
            have c3 := hS.box.c3
            clear hS
            by_cases hlt : k < s.vs.length
            · obtain ⟨g, v, eg, cg, fg, lg, hT⟩ := HS.out.at_v hhi hlt
              have HT := Lib.hid (hT (-7))
              rw [eg] at c3
              clear eg hT
              go_wp2
              go_roundw
              case rel => exact ⟨k + 1, by omega, by go_num, HT.out⟩
              case measure => simp [intOf]; omega
            · have hnl : ¬ ((k : Int) < (s.vs.length : Int)) := by omega
              go_wp2
              clear c3 hnl hlt hk
              go_loopw [5] (fun i wr => ∃ k : Nat, k ≤ s.cs.length ∧ i = .int .i64 (k : Int) ∧ Sp w wr lo hi w.heap.size s h) (fun i _ => s.cs.length - (intOf i).toNat)
              case atStart => exact ⟨0, Nat.zero_le _, rfl, HS.out⟩
              case round =>
                obtain ⟨k, hk, rfl, hS⟩ := hrel
                have HS := Lib.hid hS
                have c4 := hS.box.c4
                clear hS
                by_cases hlt : k < s.cs.length
                · obtain ⟨g, v, eg, cg, fg, lg, hT⟩ := HS.out.at_c hhi hlt
                  have HT := Lib.hid (hT (-7))
                  rw [eg] at c4
                  clear eg hT
                  go_wp2
                  go_roundw
                  case rel => exact ⟨k + 1, by omega, by go_num, HT.out⟩
                  case measure => simp [intOf]; omega
                · have hnl : ¬ ((k : Int) < (s.cs.length : Int)) := by omega
                  go_wp2
                  go_end0
                  exact ⟨rfl, HS.out.keeps⟩
end Go.Proofs.Ytfdkaahkhgljdaa.Slo

namespace Go.Proofs.Ytfdkaahkhgljdaa.Slo
open Go.RowKit Go.Shelf Go.Sort Go.Proofs.Ytfdkaahkhgljdaa Go.Proofs.Ytfdkaahkhgljdaa.Occ Go.Proofs.Ytfdkaahkhgljdaa.Frac

/-- What is told of integers that came in. -/
structure ArgK (k : IntKind) (w : World) (a : Option Addr) (len cap : Nat) (ys : List Int) : Prop where
  hlen : ys.length = len
  hrd : Rd k w a ys
  hwf : ∀ z ∈ ys, (Lit.int k z).wf = true
  hnil : a = Option.none → cap = 0
  hcap : len ≤ cap
  hbig : cap ≤ 9223372036854775807
theorem argK_of {k : IntKind} {w : World} {a : Option Addr} {len cap : Nat} {zs : List Int} (h : Opn.IsRow k w a len cap zs) : ∃ ys, ArgK k w a len cap ys := by
  refine ⟨zs.take len, ?_⟩
  rcases h with ⟨rfl, rfl, rfl, rfl⟩ | ⟨x, rfl, hl, hm, hz, hc, hw⟩
  · exact ⟨rfl, .inl rfl, by intro z hz; simp at hz, fun _ => rfl, Nat.le_refl _, by omega⟩
  · have hlen : (zs.take len).length = len := by rw [List.length_take]; omega
    refine ⟨hlen, ?_, fun z hz' => hw z (List.mem_of_mem_take hz'), (by intro h; cases h), hl, (by unfold maxLen at hm; omega)⟩
    rcases Nat.eq_zero_or_pos len with h0 | h0
    · subst h0; left; simp
    · right
      obtain ⟨b, o, s⟩ := x
      obtain rfl : s = Option.none := by simpa [Addr.add] using World.cell?_spot (hc 0 (by omega))
      refine ⟨b, o, rfl, ?_, fun i hi => ?_⟩
      · exact World.block_lt_of_cell? w ⟨b, o, Option.none⟩ (by have := hc 0 (by omega); rwa [Addr.add_lit, Nat.add_zero] at this)
      · rw [hlen] at hi
        have := hc i (by omega)
        rw [Addr.add_lit] at this
        rw [this]
        simp [List.getD_eq_getElem?_getD, List.getElem?_take_of_lt hi]

/-- A gapped array as it comes in. -/
structure In where
  seg : Int
  aw : Option Addr
  lw : Nat
  cw : Nat
  zw : List Int
  ak : Option Addr
  lk : Nat
  ck : Nat
  zk : List Int
  av : Option Addr
  lv : Nat
  cv : Nat
  zv : List Int
  ac : Option Addr
  lc : Nat
  cc : Nat
  zc : List Int
  laid : Int
def In.val (x : In) : Value := .agg #[.int .i64 x.seg, .slice x.aw x.lw x.cw, .slice x.ak x.lk x.ck, .slice x.av x.lv x.cv, .slice x.ac x.lc x.cc, .int .u64 x.laid]
structure In.Ok (w : World) (x : In) : Prop where
  wseg : (Lit.int .i64 x.seg).wf = true
  rw : Opn.IsRow .u64 w x.aw x.lw x.cw x.zw
  rk : Opn.IsRow .i64 w x.ak x.lk x.ck x.zk
  rv : Opn.IsRow .i64 w x.av x.lv x.cv x.zv
  rc : Opn.IsRow .i64 w x.ac x.lc x.cc x.zc
  wlaid : (Lit.int .u64 x.laid).wf = true
/-- What is told of it. -/
structure SArg (w : World) (s : Sl) (h : Hd) : Prop where
  seg : (Lit.int .i64 s.seg).wf = true
  u : U64 s.ws
  laid : 0 ≤ s.laid ∧ s.laid < 18446744073709551616
  rd : SRd w s h
  no : HNo h
  big : s.ws.length ≤ 9223372036854775807 ∧ s.ks.length ≤ 9223372036854775807 ∧ s.vs.length ≤ 9223372036854775807 ∧ s.cs.length ≤ 9223372036854775807
  wk : ∀ z ∈ s.ks, (Lit.int .i64 z).wf = true
  wv : ∀ z ∈ s.vs, (Lit.int .i64 z).wf = true
theorem u64_wf {n : Int} (h : (Lit.int .u64 n).wf = true) : 0 ≤ n ∧ n < 18446744073709551616 := by
  simp [Lit.wf, IntKind.min, IntKind.max, IntKind.signed, IntKind.bits] at h
  omega
theorem In.Ok.open {w : World} {x : In} (o : x.Ok w) : ∃ s h, x.val = sval s h ∧ SArg w s h := by
  obtain ⟨yw, w1⟩ := argK_of o.rw
  obtain ⟨yk, k1⟩ := argK_of o.rk
  obtain ⟨yv, v1⟩ := argK_of o.rv
  obtain ⟨yc, c1⟩ := argK_of o.rc
  refine ⟨⟨x.seg, yw, yk, yv, yc, x.laid⟩, ⟨x.aw, x.cw, x.ak, x.ck, x.av, x.cv, x.ac, x.cc⟩, ?_, ⟨o.wseg, fun z hz => u64_wf (w1.hwf z hz), u64_wf o.wlaid, ⟨w1.hrd, k1.hrd, v1.hrd, c1.hrd⟩, ⟨w1.hnil, k1.hnil, v1.hnil, c1.hnil⟩, ?_, k1.hwf, v1.hwf⟩⟩
  · unfold In.val sval; dsimp only; rw [w1.hlen, k1.hlen, v1.hlen, c1.hlen]
  · have := w1.hlen; have := k1.hlen; have := v1.hlen; have := c1.hlen
    have := w1.hcap; have := k1.hcap; have := v1.hcap; have := c1.hcap
    have := w1.hbig; have := k1.hbig; have := v1.hbig; have := c1.hbig
    dsimp only; omega
theorem greatB_no {s : Sl} {m : Nat} (h : greatB s (m : Int) = false) : s.ws.length ≤ m ∧ s.ks.length ≤ m ∧ s.vs.length ≤ m ∧ s.cs.length ≤ m := by
  unfold greatB at h; simp at h; omega
theorem SArg.wf {w : World} {s : Sl} {h : Hd} (a : SArg w s h) (l : s.ws.length ≤ 100000 ∧ s.ks.length ≤ 100000 ∧ s.vs.length ≤ 100000 ∧ s.cs.length ≤ 100000) : s.Wf := ⟨a.seg, a.u, a.laid, l.1, l.2.1, l.2.2.1, l.2.2.2⟩

/-- A struct in a box. -/
structure BS (W : World) (b : Nat) (s : Sl) (h : Hd) : Prop where
  box : BoxS W b s h
  lt : b < W.heap.size
structure BP (W : World) (b : Nat) (x y : Int) : Prop where
  box : Res W b x y
  lt : b < W.heap.size
theorem BS.next {W W' : World} {b : Nat} {s : Sl} {h : Hd} (x : BS W b s h) (hb : Below W.heap.size W W') : BS W' b s h := ⟨x.box.below hb x.lt, Nat.lt_of_lt_of_le x.lt hb.size⟩
theorem BP.next {W W' : World} {b : Nat} {x y : Int} (p : BP W b x y) (hb : Below W.heap.size W W') : BP W' b x y := ⟨p.box.below hb p.lt, Nat.lt_of_lt_of_le p.lt hb.size⟩
theorem SRd.next {W W' : World} {s : Sl} {h : Hd} (r : SRd W s h) (hb : Below W.heap.size W W') : SRd W' s h := r.mono hb (Nat.le_refl _)
/-- A new box, as the walk spells it. -/
def allocS (W : World) (s : Sl) (h : Hd) : World := W.alloc (.cells #[.int .i64 s.seg, .slice h.aw s.ws.length h.cw, .slice h.ak s.ks.length h.ck, .slice h.av s.vs.length h.cv, .slice h.ac s.cs.length h.cc, .int .u64 s.laid] 27)
theorem allocS_fold (W : World) (s : Sl) (h : Hd) : W.alloc (.cells #[.int .i64 s.seg, .slice h.aw s.ws.length h.cw, .slice h.ak s.ks.length h.ck, .slice h.av s.vs.length h.cv, .slice h.ac s.cs.length h.cc, .int .u64 s.laid] 27) = allocS W s h := rfl
theorem allocS_size (W : World) (s : Sl) (h : Hd) : (allocS W s h).heap.size = W.heap.size + 1 := by simp [allocS]
theorem allocS_below (W : World) (s : Sl) (h : Hd) : Below W.heap.size W (allocS W s h) := (Below.refl _ W).alloc (Nat.le_refl _) _
theorem allocS_bs (W : World) (s : Sl) (h : Hd) : BS (allocS W s h) W.heap.size s h := ⟨BoxC.new W _ _ _ _ _ _ _, by rw [allocS_size]; omega⟩
theorem allocS_bs2 (W : World) (s o : Sl) (h i : Hd) : BS (allocS (allocS W s h) o i) (W.heap.size + 1) o i := by
  have := allocS_bs (allocS W s h) o i
  rwa [allocS_size] at this
def allocP (W : World) (x y : Int) : World := W.alloc (.cells #[.int .i64 x, .int .i64 y] 43)
theorem allocP_fold (W : World) (x y : Int) : W.alloc (.cells #[.int .i64 x, .int .i64 y] 43) = allocP W x y := rfl
theorem allocP_size (W : World) (x y : Int) : (allocP W x y).heap.size = W.heap.size + 1 := by simp [allocP]
theorem allocP_below (W : World) (x y : Int) : Below W.heap.size W (allocP W x y) := (Below.refl _ W).alloc (Nat.le_refl _) _
theorem allocP_bp (W : World) (x y : Int) : BP (allocP W x y) W.heap.size x y := ⟨Res.new W x y _, by rw [allocP_size]; omega⟩

/-- What holds now, and stays whatever new memory is made. -/
structure St (P : World → Prop) (W : World) : Prop where
  now : P W
  nx : ∀ W W', P W → Below W.heap.size W W' → P W'
theorem St.next {P : World → Prop} {W W' : World} (h : St P W) (hb : Below W.heap.size W W') : St P W' := ⟨h.nx _ _ h.now hb, h.nx⟩
theorem St.and {P Q : World → Prop} {W : World} (h : St P W) (k : St Q W) : St (fun W => Q W ∧ P W) W := ⟨⟨k.now, h.now⟩, fun W W' x hb => ⟨k.nx W W' x.1 hb, h.nx W W' x.2 hb⟩⟩
theorem St.below (w : World) : St (fun W => Below w.heap.size w W) w := ⟨Below.refl _ _, fun _ _ h hb => bstep h hb⟩
theorem St.below' {w W : World} (h : Below w.heap.size w W) : St (fun W => Below w.heap.size w W) W := ⟨h, fun _ _ h hb => bstep h hb⟩
theorem St.bs {W : World} {b : Nat} {s : Sl} {h : Hd} (x : BS W b s h) : St (fun W => BS W b s h) W := ⟨x, fun _ _ x hb => x.next hb⟩
theorem St.bp {W : World} {b : Nat} {x y : Int} (p : BP W b x y) : St (fun W => BP W b x y) W := ⟨p, fun _ _ x hb => x.next hb⟩
theorem St.rd {W : World} {s : Sl} {h : Hd} (x : SRd W s h) : St (fun W => SRd W s h) W := ⟨x, fun _ _ x hb => x.next hb⟩
theorem St.own {W : World} {lo hi : Nat} {s : Sl} {h : Hd} (x : SOwn W lo hi s h) : St (fun W => SOwn W lo hi s h) W := ⟨x, fun _ _ x hb => x.below hb⟩
theorem St.row {W : World} {lo m n : Nat} {e : TypeId} {v : Value} {xs : List Value} (x : W.ownsRow lo e m v n xs) : St (fun W => W.ownsRow lo e m v n xs) W := ⟨x, fun _ _ x hb => owns_below x hb⟩
theorem St.rd2 {W : World} {a : Option Addr} {P : List (Int × Int)} (x : Rd2 W a P) : St (fun W => Rd2 W a P) W := ⟨x, fun _ _ x hb => x.mono hb (Nat.le_refl _)⟩
theorem St.rdk {W : World} {k : IntKind} {a : Option Addr} {P : List Int} (x : Rd k W a P) : St (fun W => Rd k W a P) W := ⟨x, fun _ _ x hb => x.mono hb (Nat.le_refl _)⟩
theorem St.le {W : World} {n : Nat} (x : n ≤ W.heap.size) : St (fun W => n ≤ W.heap.size) W := ⟨x, fun _ _ x hb => Nat.le_trans x hb.size⟩

/-- Blocks that a spoiling keeps. -/
theorem keeps_block {lo hi : Nat} {W W' : World} (k : Keeps lo hi W.heap.size W W') {b : Nat} (h : b < W.heap.size) (d : b < lo ∨ hi ≤ b) : W'.heap[b]? = W.heap[b]? := by
  rcases d with d | d
  · exact k.below.block b d
  · exact k.kept b d h
theorem keeps_bs {lo hi : Nat} {W W' : World} (k : Keeps lo hi W.heap.size W W') {b : Nat} {s : Sl} {h : Hd} (x : BS W b s h) (d : b < lo ∨ hi ≤ b) : BS W' b s h := by
  have e := keeps_block k x.lt d
  have c : ∀ j, W'.cell? ⟨b, j, Option.none⟩ = W.cell? ⟨b, j, Option.none⟩ := fun j => World.cell?_of_block (a := ⟨b, j, Option.none⟩) e
  exact ⟨⟨(c 0).trans x.box.c0, (c 1).trans x.box.c1, (c 2).trans x.box.c2, (c 3).trans x.box.c3, (c 4).trans x.box.c4, (c 5).trans x.box.c5, fun j => (World.frozen?_of_block (a := ⟨b, j, Option.none⟩) e).trans (x.box.f j)⟩, Nat.lt_of_lt_of_le x.lt k.below.size⟩
theorem keeps_row {lo hi : Nat} {W W' : World} (k : Keeps lo hi W.heap.size W W') {l m n : Nat} {e : TypeId} {v : Value} {xs : List Value} (h : W.ownsRow l e m v n xs) (d : ∀ b, v.ownBlock = some b → b < lo ∨ hi ≤ b) : W'.ownsRow l e m v n xs := by
  have lt := h.lt
  refine ⟨h.1, ?_⟩
  rcases h.2 with h1 | ⟨g, cap, cur, rfl, hb, hg, r⟩
  · exact .inl h1
  · have hgl := lt g rfl
    exact .inr ⟨g, cap, cur, rfl, hb, (keeps_block k hgl.2 (d g rfl)).trans hg, r⟩
theorem keeps_own {lo hi : Nat} {W W' : World} (k : Keeps lo hi W.heap.size W W') {l u : Nat} {s : Sl} {h : Hd} (x : SOwn W l u s h) (d : u ≤ lo ∨ hi ≤ l) : SOwn W' l u s h := by
  have D : ∀ {a : Option Addr} {n c m : Nat} {e : TypeId} {xs : List Value}, W.ownsRow l e 1 (.slice a n c) m xs → (∀ q, bl a = some q → q < u) → ∀ b, (Value.slice a n c).ownBlock = some b → b < lo ∨ hi ≤ b := fun {a n c m e xs} h1 h2 b hb => by
    have h3 := h1.lt b hb
    rw [ownBlock_slice] at hb
    have := h2 b hb
    omega
  exact ⟨keeps_row k x.ow (D x.ow x.hw), keeps_row k x.ok (D x.ok x.hk), keeps_row k x.ov (D x.ov x.hv), keeps_row k x.oc (D x.oc x.hc), x.hw, x.hk, x.hv, x.hc, x.wk, x.wv, x.wc, x.kv, x.kc, x.vc⟩
theorem keeps_below {lo hi n : Nat} {w W W' : World} (k : Keeps lo hi W.heap.size W W') (h : Below n w W) (hn : n ≤ lo) : Below n w W' := h.trans (k.below.mono hn)
theorem sameB_refl (s : Sl) : sameB s s = true := sameB_iff.2 rfl
end Go.Proofs.Ytfdkaahkhgljdaa.Slo

namespace Go.Proofs.Ytfdkaahkhgljdaa.Opn
open Go.ChangeShapes Go.WideShapes Go.ChangeAt Go.RowKit

/-- What a field of one cell may be. -/
inductive FK where
  | i (k : IntKind)
  | s (k : IntKind)
def FK.Field (P : Program) (t : TypeId) : FK → Prop
  | .i k => P.underlying t = some (.int k)
  | .s k => ∃ e, P.underlying t = some (.slice e) ∧ P.underlying e = some (.int k) ∧ P.cellsOf e = 1
def FK.Cell (w : World) (c : Value) : FK → Prop
  | .i k => ∃ z, c = Value.int k z ∧ (Lit.int k z).wf = true
  | .s k => ∃ a len cap zs, c = Value.slice a len cap ∧ IsRow k w a len cap zs

section
variable {H : Type} {enc : TypeId × Value → H} {P : Program} {w : World} {base : Nat} {held : Bool}

theorem open_mix_struct {r : Reach} {b0 : Nat} {t : TypeId} {fs : Array Field} {ks : List FK} {v : Value} {d : DataW H} {p : List MemPlace} (hs : P.underlying t = some (.struct fs)) (hC : P.cellsOf t = ks.length)
    (hf : ∀ (i : Nat) (k : FK), ks[i]? = some k → ∃ f : Field, fs[i]? = some f ∧ f.offset = i ∧ P.cellsOf f.type = 1 ∧ k.Field P f.type)
    (hv : Value.okWide P w r b0 t v) (h : DataW.Trod enc P w base (fun _ => true) held t v d p) :
    ∃ cs : Array Value, v = .agg cs ∧ cs.size = ks.length ∧ ∀ (i : Nat) (k : FK), ks[i]? = some k → ∃ c, cs[i]? = some c ∧ k.Cell w c := by
  obtain ⟨cs, rfl, hsz⟩ := okWide_struct hs hv
  refine ⟨cs, rfl, hsz.trans hC, fun i k hk => ?_⟩
  obtain ⟨fuel, ht⟩ := h
  obtain ⟨xs, n, _, _, _, hlen, hg⟩ := DataW.trod_struct hs ht
  obtain ⟨f, hfi, ho, h1, hu⟩ := hf i k hk
  have hg1 := hg i f hfi
  have hi : i < xs.length := by rw [hlen]; exact (Array.getElem?_eq_some_iff.1 hfi).1
  rw [ho, h1, List.getElem?_eq_getElem hi] at hg1
  cases k with
  | i k =>
    obtain ⟨z, hz, _, hw⟩ := DataW.trod_int hu hg1
    refine ⟨_, ?_, z, rfl, hw⟩
    have := at_of_take hz
    simpa [Value.cells] using this
  | s k =>
    obtain ⟨e, h2, h3, h4⟩ := hu
    rcases open_ints h2 h3 h4 hg1 with ⟨hcs, _⟩ | ⟨x, l, c, zs, hcs, _, hl, hm, hz, _, hcell, hwz⟩
    · refine ⟨_, ?_, Option.none, 0, 0, [], rfl, .inl ⟨rfl, rfl, rfl, rfl⟩⟩
      have := at_of_take hcs
      simpa [Value.cells] using this
    · refine ⟨_, ?_, some x, l, c, zs, rfl, .inr ⟨x, rfl, hl, hm, by simpa using hz, hcell, hwz⟩⟩
      have := at_of_take hcs
      simpa [Value.cells] using this

/-- What the walk is told of a slice of pairs that came in. -/
def IsRow2 (w : World) (a : Option Addr) (len cap : Nat) (zs : List (Int × Int)) : Prop :=
  zs.length = len ∧ ((a = none ∧ len = 0 ∧ cap = 0) ∨
  ∃ x, a = some x ∧ len ≤ cap ∧ cap ≤ maxLen ∧ ∀ i, i < zs.length → w.cell? (x.add (i * 2)) = some (.int .i64 (zs.getD i (0, 0)).1) ∧ w.cell? (x.add (i * 2 + 1)) = some (.int .i64 (zs.getD i (0, 0)).2) ∧ (Lit.int .i64 (zs.getD i (0, 0)).1).wf = true ∧ (Lit.int .i64 (zs.getD i (0, 0)).2).wf = true)

theorem open_pairs {t e : TypeId} {f0 f1 : Field} {fuel : Nat} {cs : List Value} {x : DataW H × List MemPlace} (ht : P.underlying t = some (.slice e)) (he : P.underlying e = some (.struct #[f0, f1]))
    (ce : P.cellsOf e = 2) (o0 : f0.offset = 0) (o1 : f1.offset = 1) (c0 : P.cellsOf f0.type = 1) (c1 : P.cellsOf f1.type = 1) (u0 : P.underlying f0.type = some (.int .i64)) (u1 : P.underlying f1.type = some (.int .i64))
    (h : DataW.trod enc P w base (fun _ => true) held fuel t cs = some x) :
    ∃ a len cap zs, cs = [.slice a len cap] ∧ IsRow2 w a len cap zs := by
  rcases Deep.open_slice_pairs ht he ce o0 o1 c0 c1 h with ⟨hcs, _⟩ | ⟨x, len, cap, m, n, V0, V1, D0, D1, P0, P1, hcs, _, hl, hm, hmm, _, hx⟩
  · exact ⟨Option.none, 0, 0, [], hcs, rfl, .inl ⟨rfl, rfl, rfl⟩⟩
  · have hmc : m = cap := by simpa using hmm
    have H : ∀ i, i < len → ∃ z : Int × Int, V0 i = .int .i64 z.1 ∧ V1 i = .int .i64 z.2 ∧ (Lit.int .i64 z.1).wf = true ∧ (Lit.int .i64 z.2).wf = true := fun i hi => by
      obtain ⟨_, _, t0, t1⟩ := hx i (by omega)
      obtain ⟨z0, h0, _, w0⟩ := DataW.trod_int u0 t0
      obtain ⟨z1, h1, _, w1⟩ := DataW.trod_int u1 t1
      simp at h0 h1
      exact ⟨(z0, z1), h0, h1, w0, w1⟩
    obtain ⟨q, hq⟩ := Deep.choose_lt H
    refine ⟨some x, len, cap, (List.range len).map q, hcs, by simp, .inr ⟨x, rfl, hl, hm, fun i hi => ?_⟩⟩
    have hi' : i < len := by simpa using hi
    have e : ((List.range len).map q).getD i (0, 0) = q i := by simp [List.getD_eq_getElem?_getD, hi']
    rw [e]
    obtain ⟨h0, h1, _, _⟩ := hx i (by omega)
    obtain ⟨g0, g1, g2, g3⟩ := hq i hi'
    exact ⟨by rw [h0, g0], by rw [h1, g1], g2, g3⟩
end
end Go.Proofs.Ytfdkaahkhgljdaa.Opn

namespace Go.Proofs.Ytfdkaahkhgljdaa
open Go.RowKit

theorem pairs_src {w : World} {b off : Nat} {zs : List (Int × Int)} (hc : ∀ i, i < zs.length → w.cell? ⟨b, off + i * 2, Option.none⟩ = some (.int .i64 (zs.getD i (0, 0)).1) ∧ w.cell? ⟨b, off + i * 2 + 1, Option.none⟩ = some (.int .i64 (zs.getD i (0, 0)).2)) :
    ∀ j u, (pcells zs)[j]? = some u → w.cell? ((⟨b, off, Option.none⟩ : Addr).add j) = some u := by
  intro j u hj
  have hjn : j < zs.length * 2 := by
    have := (List.getElem?_eq_some_iff.1 hj).1
    rwa [pcells_length] at this
  rw [Addr.add_lit]
  obtain ⟨h0, h1⟩ := hc (j / 2) (by omega)
  obtain ⟨g0, g1⟩ := pcells_get zs (j / 2) (by omega)
  rcases Nat.mod_two_eq_zero_or_one j with e | e
  · rw [show j = j / 2 * 2 by omega] at hj ⊢
    rw [g0] at hj
    rw [h0]; exact hj
  · rw [show j = j / 2 * 2 + 1 by omega] at hj ⊢
    rw [g1] at hj
    rw [← Nat.add_assoc, h1]; exact hj
theorem pairs_one {zs : List (Int × Int)} : ∀ u ∈ pcells zs, u.oneCell' = true := by
  intro u hu
  unfold pcells at hu
  obtain ⟨x, _, h⟩ := List.mem_flatMap.1 hu
  simp at h
  rcases h with rfl | rfl <;> rfl

variable {P : Program} {w0 : World} {ops : Array Oper} {rest : List Oper} {o : Oper} {A : Act} {Q : Exit → Act → World → Prop}
/-- An operation whose guard says yes. -/
theorem wpList_want {w : World} (hw : Region.wanted o (yielded ops A.tmps) = true) (h : wpList P ops Q ({ o with guard := none } :: rest) A w) : wpList P ops Q (o :: rest) A w := by
  unfold wpList at h ⊢
  rw [if_pos hw]
  rw [if_pos (show Region.wanted ({ o with guard := none } : Oper) (yielded ops A.tmps) = true by simp [Region.wanted])] at h
  exact h
/-- Pairs that can be read, behind a row of the call's own. -/
theorem wpList_append_pairs {base : Nat} {e : TypeId} {v : Value} {n : Nat} {L : List (Int × Int)} (hown : w0.ownsRow base e 2 v n (pcells L)) (hbase : base ≤ w0.heap.size)
    (hgd : o.guard = none) (s x : Operand) (t : TypeId)
    (ho : o.op = .call { callee := .builtin .append, args := #[s, x], argTypes := #[t, t] })
    (i : TypeInfo) (ht : P.underlying t = some (.slice e)) (hi : P.info? e = some i) (hz : i.zero = some (.agg #[.int .i64 0, .int .i64 0])) (hsize : i.size = 2) (hby : i.bytes = 16)
    (ad : Option Addr) (cap : Nat) (zs : List (Int × Int)) (hs : A.eval s = v) (hx : A.eval x = .slice ad zs.length cap)
    (hr : Rd2 w0 ad zs) (hn : ad = Option.none → cap = 0) (h63 : n + zs.length ≤ maxLen) (hb : (n + zs.length) * 16 ≤ 140737488355328)
    (h : ∀ v' w', w'.ownsRow base e 2 v' (n + zs.length) (pcells (L ++ zs)) → Below base w0 w' → wpList P ops Q rest (A.put o.dst v') w') :
    wpList P ops Q (o :: rest) A w0 := by
  cases ad with
  | none =>
    obtain rfl := hn rfl
    have hz0 : zs = [] := by
      rcases hr with h | ⟨b, off, h, _⟩
      · exact h
      · cases h
    subst hz0
    refine wpList_append_own_none hgd s x t ho base e i 2 ht hi v n (pcells L) hs hown hx ?_
    exact h _ _ (by simpa using hown) (Below.refl _ _)
  | some a =>
    have hcells : ∀ j u, (pcells zs)[j]? = some u → w0.cell? (a.add j) = some u := by
      intro j u hj
      rcases hr with h | ⟨b, off, h, hlt, hc⟩
      · subst h; simp [pcells] at hj
      · cases h
        exact pairs_src hc j u hj
    refine wpList_append_own _ hgd s x t ho base e i (.agg #[.int .i64 0, .int .i64 0]) 2 16 ht hi hz hsize hby rfl (by decide) v n (pcells L) hs hown a zs.length cap (pcells zs) hx (by rw [pcells_length]) hcells pairs_one h63 hb hbase ?_
    intro v' w' hown' hgrow _
    exact h v' w' (by rw [pcells_append]; exact hown') ((Below.refl base w0).grown hgrow hbase (fun k hk => (World.ownsRow.lt hown k hk).1))

/-- A copy of pairs that can be read. -/
theorem wpList_append_copy2 (hgd : o.guard = none) (s x : Operand) (t e : TypeId)
    (ho : o.op = .call { callee := .builtin .append, args := #[s, x], argTypes := #[t, t] })
    (i : TypeInfo) (ht : P.underlying t = some (.slice e)) (hi : P.info? e = some i) (hz : i.zero = some (.agg #[.int .i64 0, .int .i64 0])) (hsize : i.size = 2) (hby : i.bytes = 16)
    (ad : Option Addr) (cap : Nat) (zs : List (Int × Int)) (hs : A.eval s = .slice (some ⟨w0.heap.size, 0, Option.none⟩) 0 0) (hx : A.eval x = .slice ad zs.length cap)
    (hr : Rd2 w0 ad zs) (hn : ad = Option.none → cap = 0) (h63 : zs.length ≤ maxLen) (hb : zs.length * 16 ≤ 140737488355328)
    (h : ∀ v' w', w'.ownsRow w0.heap.size e 2 v' zs.length (pcells zs) → Below w0.heap.size w0 w' → wpList P ops Q rest (A.put o.dst v') w') :
    wpList P ops Q (o :: rest) A (w0.alloc (.cells #[] e)) := by
  have hbl : Below w0.heap.size w0 (w0.alloc (.cells #[] e)) := (Below.refl _ w0).alloc (Nat.le_refl _) _
  refine wpList_append_pairs (L := []) (n := 0) (World.ownsRow_made w0 #[] 0 (Nat.le_refl _) (Nat.zero_le _) rfl) hbl.size hgd s x t ho i ht hi hz hsize hby ad cap zs hs hx (hr.mono hbl (Nat.le_refl _)) hn (by simpa using h63) (by simpa using hb) ?_
  intro v' w' h1 h2
  exact h v' w' (by simpa using h1) (hbl.trans h2)
end Go.Proofs.Ytfdkaahkhgljdaa

namespace Go.Proofs.Ytfdkaahkhgljdaa.Slo
open Go.RowKit Go.Shelf Go.Sort Go.Proofs.Ytfdkaahkhgljdaa Go.Proofs.Ytfdkaahkhgljdaa.Occ Go.Proofs.Ytfdkaahkhgljdaa.Frac
attribute [local go_sem] sval Oper.semAt_some

theorem wf_of {s : Sl} (h1 : (Lit.int .i64 s.seg).wf = true) (h2 : (s.ws.all fun z => decide (0 ≤ z ∧ z < 18446744073709551616)) = true) (h3 : decide (0 ≤ s.laid ∧ s.laid < 18446744073709551616) = true)
    (h4 : s.ws.length ≤ 100000 ∧ s.ks.length ≤ 100000 ∧ s.vs.length ≤ 100000 ∧ s.cs.length ≤ 100000) : s.Wf :=
  ⟨h1, fun z hz => by simpa using List.all_eq_true.1 h2 z hz, by simpa using h3, h4.1, h4.2.1, h4.2.2.1, h4.2.2.2⟩
deriving instance DecidableEq for Sl
theorem alive_plain : ∃ A B : Sl, newSV 4 8 = (A, 0) ∧ A.Wf ∧ laySV A 3 5 7 = (B, 0) ∧ B.Wf ∧ atV B 3 = ((5, 7), 0) ∧ B.cs = [1, 0] ∧ B.laid = 1 :=
  ⟨emptyV 4 8, layV (emptyV 4 8) 3 5 7, by decide +kernel, wf_of (by decide +kernel) (by decide +kernel) (by decide +kernel) (by decide +kernel), by decide +kernel, wf_of (by decide +kernel) (by decide +kernel) (by decide +kernel) (by decide +kernel), by decide +kernel, by decide +kernel, by decide +kernel⟩

/-- A struct is laid into a block: what is told of the world then. -/
theorem stS_bs {W : World} {b : Nat} {s o : Sl} {h i : Hd} (x : BS W b o i) : BS (stS W b s h) b s h := ⟨stS_box x.box, by rw [stS_size]; exact x.lt⟩

set_option maxRecDepth 100000 in
set_option maxHeartbeats 8000000 in
theorem alive_any (w : World) : Calls Try.prog 34 #[] w fun e w' => e = .returned (.bool true) ∧ Below w.heap.size w w' := by
  have HN := Lib.hid (fun w1 => New_any 4 8 w1 (by decide) (by decide))
  obtain ⟨A, B, e1, wA, e2, wB, e3, e4, e5⟩ := alive_plain
  rw [e1] at HN
  have HL := Lib.hid (fun h w1 (R : SRd w1 A h) => Lay_any A h 3 5 7 w1 wA R)
  rw [e2] at HL
  have HA := Lib.hid (fun h w1 (R : SRd w1 B h) => sAt_any B h 3 w1 wB R)
  rw [e3] at HA
  have HB4 := Lib.hid e4
  have HB5 := Lib.hid e5
  clear e1 e2 e3 e4 e5 wA wB
  go_enter Try.func34, Try.ntmps34
  go_wp2_with fail
  refine (HN.out _).mono ?_
  rintro e w1 ⟨h1, rfl, ho, hb⟩
  have E1 := Lib.hid ((St.below' hb).and (St.own ho))
  clear hb ho
  go_wp2_with fail
  rw [allocS_fold]
  have E2 := Lib.hid ((E1.out.next (allocS_below w1 A h1)).and (St.bs (allocS_bs w1 A h1)))
  have hw1 : w.heap.size ≤ w1.heap.size := E1.out.now.2.size
  generalize allocS w1 A h1 = w2 at *
  clear E1
  refine (HL.out h1 _ (SOwn.rd E2.out.now.2.1)).mono ?_
  rintro e w3 ⟨h2, rfl, ho, hb⟩
  have E3 := Lib.hid (((E2.out.next hb).and (St.own ho)).and (St.le hb.size))
  have hz2 : w1.heap.size < w2.heap.size := E2.out.now.1.lt
  clear hb ho E2 HL
  obtain ⟨-, -, ⟨⟨c0, c1, c2, c3, c4, c5, f⟩, -⟩, -, -⟩ := E3.out.now
  have f0 := f 0; have f1 := f 1; have f2 := f 2; have f3 := f 3; have f4 := f 4; have f5 := f 5
  clear f
  go_wp2_with fail
  clear c0 c1 c2 c3 c4 c5 f0 f1 f2 f3 f4 f5
  rw [stS_fold]
  obtain ⟨le, own, bx, -, B0⟩ := E3.out.now
  have E4 := Lib.hid (((St.below' (stS_below (p := w1.heap.size) (s := B) (h := h2) B0 hw1)).and (St.own (stS_own own hz2))).and (St.bs (stS_bs (s := B) (h := h2) bx)))
  clear le own bx B0 E3
  generalize stS w3 w1.heap.size B h2 = w4 at *
  refine (HA.out h2 _ (SOwn.rd E4.out.now.2.1)).mono ?_
  rintro e w5 ⟨rfl, hb⟩
  have E5 := Lib.hid (E4.out.next hb)
  clear hb E4 HA HN
  obtain ⟨bseg, bws, bks, bvs, bcs, blaid⟩ := B
  dsimp only at HB4 HB5
  obtain rfl := HB4.out
  obtain rfl := HB5.out
  clear HB4 HB5
  obtain ⟨⟨⟨-, -, -, -, c4, c5, f⟩, bl⟩, own, B0⟩ := E5.out.now
  have HB0 := Lib.hid B0
  obtain ⟨gc, ec, x0, -, -⟩ := own_open own.oc (j := 0) (by simp)
  obtain ⟨gd, ed, x1, -, -⟩ := own_open own.oc (j := 1) (by simp)
  dsimp only at c4 c5
  obtain rfl : gc = gd := by rw [ec] at ed; simpa using ed
  have lg : gc < w5.heap.size := (own_lt own.oc gc (by rw [ec]; rfl)).2
  rw [ec] at c4
  have y0 : w5.cell? ⟨gc, 0, Option.none⟩ = some (.int .i64 1) := x0
  have y1 : w5.cell? ⟨gc, 1, Option.none⟩ = some (.int .i64 0) := x1
  clear ec ed x0 x1 own B0 E5
  have hq : ∀ w : World, (Op.equalIn 10000 43 (.agg #[.int .i64 5, .int .i64 7]) (.agg #[.int .i64 5, .int .i64 7])).run Try.prog w = .ok true w := fun w => by rw [run_equal_pair]; simp
  have hgd : Try.prog.eqGuardType Try.prog.depth 43 = false := by kernel_rfl
  go_wp2_with fail
  go_ret
  exact ⟨rfl, HB0.out.alloc HB0.out.size _⟩

set_option maxRecDepth 100000 in
set_option maxHeartbeats 8000000 in
theorem is_ask (s : Sl) (h : Hd) (a x y : Int) (w : World) (W : s.Wf) (R : SRd w s h) :
    Calls Try.prog 35 #[sval s h, .int .i64 a, .agg #[.int .i64 x, .int .i64 y]] w fun e w' => e = .returned (.bool (decide (atV s a = ((x, y), 0)))) ∧ Below w.heap.size w w' := by
  have HC := Lib.hid (fun w1 (R : SRd w1 s h) => sAt_any s h a w1 W R)
  have E0 := Lib.hid (((((St.below w).next ((allocS_below w s h).trans ((allocP_below (allocS w s h) x y).mono (by rw [allocS_size]; omega)))).and (St.rd (R.next ((allocS_below w s h).trans ((allocP_below (allocS w s h) x y).mono (by rw [allocS_size]; omega)))))).and (St.bs ((allocS_bs w s h).next (allocP_below (allocS w s h) x y)))).and (St.bp (allocP_bp (allocS w s h) x y)))
  generalize atV s a = V at *
  obtain ⟨⟨px, py⟩, pe⟩ := V
  clear R W
  go_enter Try.func35, Try.ntmps35
  go_wp2_with fail
  rw [allocS_fold, allocP_fold]
  generalize allocP (allocS w s h) x y = w1 at *
  refine (HC.out _ E0.out.now.2.2.1).mono ?_
  rintro e w2 ⟨rfl, hb⟩
  have E1 := Lib.hid ((E0.out.next hb).and (St.le (Nat.le_refl w2.heap.size)))
  clear hb E0 HC
  dsimp only
  have hgd : Try.prog.eqGuardType Try.prog.depth 43 = false := by kernel_rfl
  have hq : ∀ w : World, (Op.equalIn 10000 43 (.agg #[.int .i64 px, .int .i64 py]) (.agg #[.int .i64 x, .int .i64 y])).run Try.prog w = .ok (px == x && py == y) w := fun w => run_equal_pair w px py x y
  obtain ⟨-, ⟨⟨p0, p1, -⟩, pl⟩, ⟨⟨c0, c1, c2, c3, c4, c5, -⟩, sl⟩, -, B0⟩ := E1.out.now
  have HB0 := Lib.hid B0
  rw [allocS_size] at p0 p1 pl
  clear B0 E1
  by_cases he : pe = 0
  · subst he
    go_wp2_with fail
    go_ret
    exact ⟨congrArg (fun b => Ending.returned (Value.bool b)) (show (px == x && py == y) = _ by rw [Bool.eq_iff_iff]; simp), HB0.out.alloc HB0.out.size _⟩
  · have he' : (pe == 0) = false := by simpa using he
    go_wp2_with fail
    go_ret
    exact ⟨congrArg (fun b => Ending.returned (Value.bool b)) (show false = _ by rw [Bool.eq_iff_iff]; simp [he]), HB0.out.alloc HB0.out.size _⟩
end Go.Proofs.Ytfdkaahkhgljdaa.Slo
