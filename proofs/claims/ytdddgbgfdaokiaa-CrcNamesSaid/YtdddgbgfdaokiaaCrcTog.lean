/- The law CrcTogether: sums of three texts put together bit by bit. -/
import Derived.Test.YtdddgbgfdaokiaaCrcBursts
import Derived.Laws.MakeOwn
import Derived.StillTailTactics
namespace Go.Proofs.Ytdddgbgfdaokiaa.Crc
open Go.RowKit Go.Proofs.Ytdddgbgfdaokiaa

theorem mixed : Try.prog.follows .mixedOrders = true := by kernel_rfl
theorem region_still_tail {P : Program} {id : Nat} {Q : Exit → Act → World → Prop} {a : Act} {w : World} {l : List Oper} (n : Nat) (hm : P.follows .mixedOrders = true) (hB : Region.lexTailB .any l.toArray n = true)
    (h : wpStill P l.toArray w.drew (fun a' => wpList P l.toArray Q (l.drop n) a' w.drew) (l.take n) a) : (Code.region id l.toArray true).wp P Q a w := wp_region_still_tail n hm hB h

/-! ### The plain law -/
def xz (xs ys : List Int) : List Int := List.zipWith (fun x y => ((x.toNat ^^^ y.toNat : Nat) : Int)) xs ys
theorem xz_length (xs ys : List Int) (h : xs.length = ys.length) : (xz xs ys).length = xs.length := by unfold xz; rw [List.length_zipWith]; omega
theorem xz_cons (x y : Int) (xs ys : List Int) : xz (x :: xs) (y :: ys) = ((x.toNat ^^^ y.toNat : Nat) : Int) :: xz xs ys := rfl
theorem xz_bytes {xs ys : List Int} (hx : Bytes xs) (hy : Bytes ys) : Bytes (xz xs ys) := by
  induction xs generalizing ys with
  | nil => intro z hz; simp [xz] at hz
  | cons x xs ih =>
    cases ys with
    | nil => intro z hz; simp [xz] at hz
    | cons y ys =>
      rw [xz_cons]
      intro z hz
      have h1 := hx x (by simp)
      have h2 := hy y (by simp)
      rcases List.mem_cons.1 hz with rfl | hz
      · have := xor_lt8 (a := x.toNat) (b := y.toNat) (by omega) (by omega)
        omega
      · exact ih (fun z hz => hx z (by simp [hz])) (fun z hz => hy z (by simp [hz])) z hz
theorem num_xz {xs ys : List Int} (hx : Bytes xs) (hy : Bytes ys) (hl : xs.length = ys.length) : num (xz xs ys) = num xs ^^^ num ys := by
  induction xs generalizing ys with
  | nil =>
    cases ys with
    | nil => rfl
    | cons y ys => simp at hl
  | cons x xs ih =>
    cases ys with
    | nil => simp at hl
    | cons y ys =>
      have h1 := hx x (by simp)
      have h2 := hy y (by simp)
      rw [xz_cons]
      simp only [num, Int.toNat_natCast]
      rw [ih (fun z hz => hx z (by simp [hz])) (fun z hz => hy z (by simp [hz])) (by simpa using hl), xor_256 x.toNat y.toNat _ _ (by omega) (by omega)]
theorem xz_getD (xs ys : List Int) (k : Nat) (h1 : k < xs.length) (h2 : k < ys.length) : (xz xs ys).getD k 0 = (((xs.getD k 0).toNat ^^^ (ys.getD k 0).toNat : Nat) : Int) := by
  simp [xz, List.getD_eq_getElem?_getD, List.getElem?_zipWith, h1, h2]

theorem compl_xor {s : Nat} (h : s < 4294967296) : 4294967295 - s = 4294967295 ^^^ s := by
  have h1 := compl32 s h
  generalize 4294967295 - s = t at *
  rw [← h1, Nat.xor_comm s t, Nat.xor_assoc, Nat.xor_self, Nat.xor_zero]
theorem four_xor (F a b c : Nat) : (F ^^^ a) ^^^ (F ^^^ b) ^^^ (F ^^^ c) = F ^^^ (a ^^^ b ^^^ c) := by
  apply Nat.eq_of_testBit_eq
  intro i
  simp only [Nat.testBit_xor]
  cases F.testBit i <;> cases a.testBit i <;> cases b.testBit i <;> cases c.testBit i <;> rfl

theorem sum_together {xs ys zs : List Int} (hx : Bytes xs) (hy : Bytes ys) (hz : Bytes zs) (h1 : xs.length = ys.length) (h2 : xs.length = zs.length) :
    sumV (xz (xz xs ys) zs) = sumV xs ^^^ sumV ys ^^^ sumV zs := by
  have hxy := xz_bytes hx hy
  have hl := xz_length xs ys h1
  have hall := xz_bytes hxy hz
  have hl2 := xz_length (xz xs ys) zs (by omega)
  have n1 := num_xz hx hy h1
  have n2 := num_xz hxy hz (by omega)
  rw [n1] at n2
  unfold sumV
  rw [behind_turns _ _ hx, behind_turns _ _ hy, behind_turns _ _ hz, behind_turns _ _ hall, hl2, hl, ← h1, ← h2, n2]
  have lx := num_lt xs hx
  have b32 : ∀ {t : List Int} (ht : Bytes t), t.length = xs.length → turns (8 * xs.length) (4294967295 ^^^ num t) < 4294967296 := fun {t} ht hl => by
    have := behind_lt (s := 4294967295) (by decide) ht
    rw [behind_turns _ _ ht, hl] at this
    exact this
  have e : turns (8 * xs.length) (4294967295 ^^^ (num xs ^^^ num ys ^^^ num zs)) = turns (8 * xs.length) (4294967295 ^^^ num xs) ^^^ turns (8 * xs.length) (4294967295 ^^^ num ys) ^^^ turns (8 * xs.length) (4294967295 ^^^ num zs) := by
    rw [← turns_xor2, ← turns_xor2, four_xor]
  have lA := b32 hx rfl
  have lB := b32 hy h1.symm
  have lC := b32 hz h2.symm
  rw [e, compl_xor lA, compl_xor lB, compl_xor lC, compl_xor (xor_lt32 (xor_lt32 lA lB) lC), four_xor]

/-- What is filled so far. -/
def fillTo (X : List Int) (k : Nat) : List Int := X.take k ++ List.replicate (X.length - k) 0
theorem fillTo_length (X : List Int) (k : Nat) (h : k ≤ X.length) : (fillTo X k).length = X.length := by unfold fillTo; simp; omega
theorem fillTo_zero (X : List Int) : fillTo X 0 = List.replicate X.length 0 := by simp [fillTo]
theorem fillTo_all (X : List Int) : fillTo X X.length = X := by simp [fillTo]
theorem fillTo_succ (X : List Int) (k : Nat) (h : k < X.length) : (fillTo X k).set k (X.getD k 0) = fillTo X (k + 1) := by
  unfold fillTo
  rw [List.set_append_right _ _ (by simp; omega), show X.length - k = (X.length - (k + 1)) + 1 by omega, List.replicate_succ]
  have hm : min k X.length = k := by omega
  simp only [List.length_take, hm, Nat.sub_self, List.set_cons_zero]
  rw [take_snoc X k h, List.append_assoc]
  rfl

theorem made_list (z : Int) (k : IntKind) (n : Nat) : (madeCells (Value.int k z).cells n).toList = List.replicate n (Value.int k z) := by
  unfold madeCells
  apply List.ext_getElem
  · simp
  · intro i h1 h2
    simp [Value.cells, Nat.mod_one]
/-- 'make([]T, n)' of integers. -/
theorem made_owns (w : World) (e : TypeId) (k : IntKind) (n : Nat) (h : n ≤ maxLen) : (w.alloc (.cells (madeCells (Value.int k 0).cells n) e)).ownsRow w.heap.size e 1 (.slice (some ⟨w.heap.size, 0, Option.none⟩) n n) n ((List.replicate n (0 : Int)).map (Value.int k)) := by
  refine ⟨by simp, .inr ⟨w.heap.size, n, _, rfl, Nat.le_refl _, heap_alloc_new w _, Nat.le_refl _, h, by rw [size_madeCells, Nat.mul_one], ?_⟩⟩
  rw [made_list, Nat.mul_one, List.map_replicate, List.take_of_length_le (by simp)]
theorem run_make_zeros {P : Program} (t e : TypeId) (i : TypeInfo) (k : IntKind) (ht : P.underlying t = some (.slice e)) (hi : P.info? e = some i) (hz : i.zero = some (.int k 0)) (hs : i.size = 1) (n : Nat) (hbytes : i.bytes * n ≤ 281474976710656) (h63 : n ≤ 9223372036854775807) (w : World) :
    (Instr.makeSlice t (.int .i64 (n : Int)) (.int .i64 (n : Int))).run P w = .ok (.slice (some ⟨w.heap.size, 0, Option.none⟩) n n) (w.alloc (.cells (madeCells (Value.int k 0).cells n) e)) := by
  have hb : (i.bytes : Int) * (n : Int) ≤ 281474976710656 := by
    have h : ((i.bytes * n : Nat) : Int) ≤ 281474976710656 := by omega
    rwa [Int.natCast_mul] at h
  have hr := run_make (P := P) w t e i _ ht hi hz .i64 .i64 n n (by omega) (by omega) hb (by omega)
  simp only [Int.toNat_natCast, hs, Nat.mul_one] at hr
  exact hr

theorem Rd.at {k : IntKind} {w w1 : World} {a : Option Addr} {zs : List Int} {n i : Nat} (h : Rd k w a zs) (hb : Below n w w1) (hn : w.heap.size ≤ n) (hi : i < zs.length) : ∃ b off, a = some ⟨b, off, Option.none⟩ ∧ w1.cell? ⟨b, off + i, Option.none⟩ = some (.int k (zs.getD i 0)) := by
  rcases h with h | ⟨b, off, ha, hlt, hc⟩
  · subst h; simp at hi
  · exact ⟨b, off, ha, (hb.cell (p := ⟨b, off + i, Option.none⟩) (Nat.lt_of_lt_of_le hlt hn)).trans (hc i hi)⟩
theorem of_n (a : Option Addr) (cap : Nat) (zs : List Int) (n : Nat) (w : World) (hn : zs.length = n) (hz : Bytes zs) (hr : Rd .u8 w a zs) (hl : n ≤ 1048576) :
    Calls Try.prog 11 #[.slice a n cap] w fun e w' => e = .returned (.tuple #[.int .u32 (sumV zs), .int .i64 0]) ∧ Below w.heap.size w w' := by
  subst hn
  have := of_any a cap zs w hz hr (by omega)
  rw [ofV_lo (by omega)] at this
  exact this

set_option maxRecDepth 100000 in
set_option maxHeartbeats 4000000 in
theorem crcTogether (a : Option Addr) (la ca : Nat) (za : List Int) (b : Option Addr) (lb cb : Nat) (zb : List Int) (c : Option Addr) (lc cc : Nat) (zc : List Int) (w : World) (wa : Opn.IsRow .u8 w a la ca za) (wb : Opn.IsRow .u8 w b lb cb zb) (wc : Opn.IsRow .u8 w c lc cc zc) :
    Calls Try.prog 4 #[.slice a la ca, .slice b lb cb, .slice c lc cc] w fun e w' => e = .returned (.bool true) ∧ Below w.heap.size w w' := by
  obtain ⟨i0, hi, hz0, hz1, hz2⟩ := info_parts info8
  obtain ⟨xs, rfl, hra, hba, hna, hca, hca2⟩ := arg_of wa
  obtain ⟨ys, rfl, hrb, hbb, hnb, hcb, hcb2⟩ := arg_of wb
  obtain ⟨zs, rfl, hrc, hbc, hnc, hcc, hcc2⟩ := arg_of wc
  clear wa wb wc
  go_enter Try.func4, Try.ntmps4
  go_wp2_with fail
  refine (alive_any w).mono ?_
  rintro e w1 ⟨rfl, hb1⟩
  have hra1 := hra.mono hb1 (Nat.le_refl _)
  have hrb1 := hrb.mono hb1 (Nat.le_refl _)
  have hrc1 := hrc.mono hb1 (Nat.le_refl _)
  have HB1 := Lib.hid hb1
  clear hra hrb hrc hb1
  by_cases hl : 1500 < xs.length
  · clear hra1 hrb1 hrc1
    go_wp2
    go_ret
    exact ⟨rfl, HB1.out⟩
  by_cases hl2 : 1500 < ys.length
  · clear hra1 hrb1 hrc1
    go_wp2
    go_ret
    exact ⟨rfl, HB1.out⟩
  by_cases hl3 : 1500 < zs.length
  · clear hra1 hrb1 hrc1
    go_wp2
    go_ret
    exact ⟨rfl, HB1.out⟩
  obtain ⟨n, hmin, hn1, hn2, hn3⟩ : ∃ n : Nat, min (xs.length : Int) (min (ys.length : Int) (zs.length : Int)) = (n : Int) ∧ n ≤ xs.length ∧ n ≤ ys.length ∧ n ≤ zs.length :=
    ⟨min xs.length (min ys.length zs.length), by omega, by omega, by omega, by omega⟩
  have hmk := run_make_zeros (P := Try.prog) 23 5 i0 .u8 Try.underlying23 hi hz0 hz1 n (by rw [hz2]; omega) (by omega)
  have lx : (xs.take n).length = n := by rw [List.length_take]; omega
  have ly : (ys.take n).length = n := by rw [List.length_take]; omega
  have lz : (zs.take n).length = n := by rw [List.length_take]; omega
  have hrx := hra1.take n
  have hry := hrb1.take n
  have hrz := hrc1.take n
  have hbx := hba.take n
  have hby := hbb.take n
  have hbz := hbc.take n
  clear hba hbb hbc hra1 hrb1 hrc1
  go_wp2_with fail
  clear hmk hmin
  have HO := Lib.hid (made_owns w1 5 .u8 n (by unfold maxLen; omega))
  have HB2 : Hid (Below w1.heap.size w1 (w1.alloc (.cells (madeCells (Value.int .u8 0).cells n) 5))) := Lib.hid ((Below.refl _ _).alloc (Nat.le_refl _) _)
  have ha3 : n ≤ ca ∧ n ≤ cb ∧ n ≤ cc := by omega
  have hnl : (n : Int) ≤ xs.length ∧ (n : Int) ≤ ys.length ∧ (n : Int) ≤ zs.length := by omega
  generalize xs.take n = xt at *
  generalize ys.take n = yt at *
  generalize zs.take n = zt at *
  have HX : Hid ((xz (xz xt yt) zt).length = n) := Lib.hid (by rw [xz_length _ _ (by rw [xz_length _ _ (by omega)]; omega), xz_length _ _ (by omega)]; exact lx)
  have HXB : Hid (Bytes (xz (xz xt yt) zt)) := Lib.hid (xz_bytes (xz_bytes hbx hby) hbz)
  have HS : Hid (sumV (xz (xz xt yt) zt) = sumV xt ^^^ sumV yt ^^^ sumV zt) := Lib.hid (sum_together hbx hby hbz (by omega) (by omega))
  have HG : ∀ k, k < n → Hid ((xz (xz xt yt) zt).getD k 0 = (((xt.getD k 0).toNat ^^^ (yt.getD k 0).toNat ^^^ (zt.getD k 0).toNat : Nat) : Int)) := fun k hk => Lib.hid (by
    rw [xz_getD _ _ k (by rw [xz_length _ _ (by omega)]; omega) (by omega), xz_getD _ _ k (by omega) (by omega), Int.toNat_natCast])
  generalize xz (xz xt yt) zt = X at *
  generalize hB : w1.heap.size = B at *
  have HHB := Lib.hid hB
  clear hB
  go_loopw [10] (fun i wr => ∃ k : Nat, k ≤ n ∧ i = .int .i64 k ∧ wr.ownsRow B 5 1 (.slice (some ⟨B, 0, Option.none⟩) n n) n (nums8 (fillTo X k)) ∧ Below B w1 wr) (fun i _ => n - (intOf i).toNat)
  case atStart => exact ⟨0, Nat.zero_le _, rfl, by rw [fillTo_zero, HX.out]; exact HO.out, HB2.out⟩
  case round =>
    obtain ⟨k, hk, rfl, hown, hbl⟩ := hrel
    clear HO HB2
    by_cases hlt : k < n
    · obtain ⟨bx, ox, rfl, hcx⟩ := Rd.at hrx hbl (by have := HHB.out; omega) (show k < xt.length by omega)
      obtain ⟨by', oy, rfl, hcy⟩ := Rd.at hry hbl (by have := HHB.out; omega) (show k < yt.length by omega)
      obtain ⟨bz, oz, rfl, hcz⟩ := Rd.at hrz hbl (by have := HHB.out; omega) (show k < zt.length by omega)
      have hgk := HG k hlt
      have h1 := hbx.at (k := k) (by omega)
      have h2 := hby.at (k := k) (by omega)
      have h3 := hbz.at (k := k) (by omega)
      have HF := Lib.hid (fillTo_succ X k (by rw [HX.out]; exact hlt))
      clear hrx hry hrz hbx hby hbz HS HG HXB
      generalize xt.getD k 0 = x at *
      generalize yt.getD k 0 = y at *
      generalize zt.getD k 0 = z at *
      generalize X.getD k 0 = v at *
      obtain ⟨x, rfl⟩ := Int.eq_ofNat_of_zero_le h1.1
      obtain ⟨y, rfl⟩ := Int.eq_ofNat_of_zero_le h2.1
      obtain ⟨z, rfl⟩ := Int.eq_ofNat_of_zero_le h3.1
      simp only [Int.toNat_natCast] at hgk
      have x1 := xor_u8 (z := (x : Int)) (y := y) (by omega) (by omega) (by omega)
      have x2 := xor_u8 (z := ((x ^^^ y : Nat) : Int)) (y := z) (by omega) (by have := xor_lt8 (a := x) (b := y) (by omega) (by omega); omega) (by omega)
      simp only [Int.toNat_natCast] at x1 x2
      rw [← hgk.out] at x2
      have hfl : (nums8 (fillTo X k)).length = n := by unfold nums8; rw [List.length_map, fillTo_length X k (by rw [HX.out]; omega), HX.out]
      have hcell := hown.cellAt k (by omega)
      have hfr := hown.frozenAt k
      obtain ⟨old, hold⟩ : ∃ old, (nums8 (fillTo X k))[k]? = some old := ⟨_, List.getElem?_eq_getElem (by omega)⟩
      rw [hold] at hcell
      have HO := Lib.hid (hown.stored k (.int .u8 v)).1
      have HBL := Lib.hid (hbl.grown (hown.stored k (.int .u8 v)).2 (by have := hbl.size; have := HHB.out; omega) (by intro k hk; cases hk; exact Nat.le_refl _))
      clear hown h1 h2 h3 hgk hfl hold
      go_wp2_with fail
      have kx : k < xs.length := by omega
      have ky : k < ys.length := by omega
      have kz : k < zs.length := by omega
      refine region_still_tail 17 mixed (by kernel_rfl) ?_
      simp only [List.take_succ_cons, List.take_zero, List.drop_succ_cons, List.drop_zero]
      repeat still_step
      go_goals
      refine wpStill_nil ?_
      go_wp2
      go_roundw
      case rel => exact ⟨k + 1, by omega, by go_num, by rw [← HF.out, ← nums8_set]; exact HO.out, HBL.out.drew⟩
      case measure => simp [intOf]; omega
    · obtain rfl : k = n := by omega
      have hrx1 := hrx.mono hbl (by have := HHB.out; omega)
      have hry1 := hry.mono hbl (by have := HHB.out; omega)
      have hrz1 := hrz.mono hbl (by have := HHB.out; omega)
      have hro : Rd .u8 wr (some ⟨B, 0, Option.none⟩) X := by
        obtain ⟨a5, c5, e5, _, h5⟩ := Rd.of_owns (zs := X) (by rw [show fillTo X k = X by have := fillTo_all X; rwa [HX.out] at this] at hown; exact hown)
        cases e5
        exact h5
      have HB3 := Lib.hid (bstep HB1.out (hbl.mono (by have := HHB.out; omega)))
      have hA := sumV_lt xt
      have hB := sumV_lt yt
      have hC := sumV_lt zt
      have x1 := xor_u32 (sumV xt) (sumV yt) hA hB
      have x2 := xor_u32 (sumV xt ^^^ sumV yt) (sumV zt) (xor_lt32 hA hB) hC
      rw [← HS.out] at x2
      clear hown hbl hrx hry hrz HG HS
      go_wp2_with fail
      refine (of_n a ca xt k wr lx hbx hrx1 (by omega)).mono ?_
      rintro e w3 ⟨rfl, hb3⟩
      have hry2 := hry1.mono hb3 (Nat.le_refl _)
      have hrz2 := hrz1.mono hb3 (Nat.le_refl _)
      have hro2 := hro.mono hb3 (Nat.le_refl _)
      have HB4 := Lib.hid (bstep HB3.out hb3)
      clear hb3 hry1 hrz1 hro hrx1
      go_wp2_with fail
      refine (of_n b cb yt k w3 ly hby hry2 (by omega)).mono ?_
      rintro e w4 ⟨rfl, hb4⟩
      have hrz3 := hrz2.mono hb4 (Nat.le_refl _)
      have hro3 := hro2.mono hb4 (Nat.le_refl _)
      have HB5 := Lib.hid (bstep HB4.out hb4)
      clear hb4 hry2 hrz2 hro2
      go_wp2_with fail
      refine (of_n c cc zt k w4 lz hbz hrz3 (by omega)).mono ?_
      rintro e w5 ⟨rfl, hb5⟩
      have hro4 := hro3.mono hb5 (Nat.le_refl _)
      have HB6 := Lib.hid (bstep HB5.out hb5)
      clear hb5 hrz3 hro3
      go_wp2_with fail
      refine (of_n _ k X k w5 HX.out HXB.out hro4 (by omega)).mono ?_
      rintro e w6 ⟨rfl, hb6⟩
      have HB7 := Lib.hid (bstep HB6.out hb6)
      clear hb6 hro4
      generalize sumV xt = A at *
      generalize sumV yt = Bq at *
      generalize sumV zt = C at *
      generalize sumV X = D at *
      generalize A ^^^ Bq = AB at *
      go_wp2
      go_ret
      exact ⟨by simp, HB7.out⟩

end Go.Proofs.Ytdddgbgfdaokiaa.Crc
