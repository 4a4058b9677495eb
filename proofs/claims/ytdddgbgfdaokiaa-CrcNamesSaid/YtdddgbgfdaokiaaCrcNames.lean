/- The law CrcNames: a walk. -/
import Derived.Test.YtdddgbgfdaokiaaCrcTog
namespace Go.Proofs.Ytdddgbgfdaokiaa.Crc
open Go.RowKit Go.Proofs.Ytdddgbgfdaokiaa

/-- What is answered of bytes that are written out. -/
def AnsN (V : List Int × Int) (w : World) (e : Ending) (w' : World) : Prop :=
  ∃ a c, e = .returned (.tuple #[.slice a V.1.length c, .int .i64 V.2]) ∧ Rd .u8 w' a V.1 ∧ Below w.heap.size w w'
theorem AnsN.of {V : List Int × Int} {w w0 w' : World} {e : Ending} (h : Ans V w0 e w') (hb : Below w.heap.size w w0) : AnsN V w e w' := by
  obtain ⟨v, rfl, hv, hb2⟩ := h
  obtain ⟨a, c, rfl, _, hr, _⟩ := owns_arg hv
  exact ⟨a, c, rfl, hr, bstep hb hb2⟩
theorem Rd_lit (w : World) (t : TypeId) (xs : List Int) : Rd .u8 (w.alloc (.cells (nums8 xs).toArray t)) (some ⟨w.heap.size, 0, Option.none⟩) xs := by
  refine .inr ⟨w.heap.size, 0, rfl, by simp, fun i hi => ?_⟩
  rw [Nat.zero_add, cell_of_row _ w.heap.size i _ t (0, 0) (heap_alloc_new w _)]
  simp [nums8, hi]
theorem lit_open (w : World) (xs : List Int) (V : List Int × Int) (hz : Bytes xs) (hl : xs.length ≤ 1000) (hV : openV xs = V) :
    Calls Try.prog 15 #[.slice (some ⟨w.heap.size, 0, Option.none⟩) xs.length xs.length] (w.alloc (.cells (nums8 xs).toArray 5)) fun e w' => AnsN V w e w' := by
  subst hV
  exact (open_any _ xs.length xs _ hz (Rd_lit w _ xs) (by omega) (Nat.le_refl _)).mono fun e w' h => AnsN.of h ((Below.refl _ _).alloc (Nat.le_refl _) _)
theorem lit_burst (w : World) (xs : List Int) (p m : Int) (V : List Int × Int) (hz : Bytes xs) (hl : xs.length ≤ 1000) (hp0 : -1000 ≤ p) (hp1 : p ≤ 1000) (hm0 : 0 ≤ m) (hm1 : m ≤ 1000) (hV : burstV xs p m.toNat = V) :
    Calls Try.prog 18 #[.slice (some ⟨w.heap.size, 0, Option.none⟩) xs.length xs.length, .int .i64 p, .int .u32 m] (w.alloc (.cells (nums8 xs).toArray 5)) fun e w' => AnsN V w e w' := by
  subst hV
  exact (burst_any _ xs.length xs p m _ hz (Rd_lit w _ xs) (by omega) (by omega) (by omega) (by omega) (by omega)).mono fun e w' h => AnsN.of h ((Below.refl _ _).alloc (Nat.le_refl _) _)
theorem n_seal (w : World) : Calls Try.prog 14 #[.slice Option.none 0 0] w fun e w' => AnsN ([0, 0, 0, 0], 0) w e w' := by
  have h : sealV [] = ([0, 0, 0, 0], 0) := by decide +kernel
  have := seal_any Option.none 0 [] w none_bytes Rd.nil (by decide)
  rw [h] at this
  exact this.mono fun e w' h => AnsN.of h (Below.refl _ _)
theorem by0 : Bytes [0, 0, 0] := by intro z hz; simp at hz; omega
theorem by1 : Bytes [0, 0, 0, 0] := by intro z hz; simp at hz; omega
theorem by2 : Bytes [1, 0, 0, 0] := by intro z hz; simp at hz; omega
theorem by3 : Bytes [0, 0] := by intro z hz; simp at hz; omega
theorem n_open0 (w : World) : Calls Try.prog 15 #[.slice (some ⟨w.heap.size, 0, Option.none⟩) 3 3] (w.alloc (.cells #[.int .u8 0, .int .u8 0, .int .u8 0] 5)) fun e w' => AnsN ([], 8) w e w' :=
  lit_open w [0, 0, 0] _ by0 (by decide) (by decide +kernel)
theorem n_open1 (w : World) : Calls Try.prog 15 #[.slice (some ⟨w.heap.size, 0, Option.none⟩) 4 4] (w.alloc (.cells #[.int .u8 0, .int .u8 0, .int .u8 0, .int .u8 0] 5)) fun e w' => AnsN ([], 0) w e w' :=
  lit_open w [0, 0, 0, 0] _ by1 (by decide) (by decide +kernel)
theorem n_open2 (w : World) : Calls Try.prog 15 #[.slice (some ⟨w.heap.size, 0, Option.none⟩) 4 4] (w.alloc (.cells #[.int .u8 1, .int .u8 0, .int .u8 0, .int .u8 0] 5)) fun e w' => AnsN ([], 8) w e w' :=
  lit_open w [1, 0, 0, 0] _ by2 (by decide) (by decide +kernel)
theorem n_burst (w : World) (p m : Int) (V : List Int × Int) (hp0 : -1000 ≤ p) (hp1 : p ≤ 1000) (hm0 : 0 ≤ m) (hm1 : m ≤ 1000) (hV : burstV [0, 0] p m.toNat = V) : Calls Try.prog 18 #[.slice (some ⟨w.heap.size, 0, Option.none⟩) 2 2, .int .i64 p, .int .u32 m] (w.alloc (.cells #[.int .u8 0, .int .u8 0] 5)) fun e w' => AnsN V w e w' :=
  lit_burst w [0, 0] p m _ by3 (by decide) hp0 hp1 hm0 hm1 hV
theorem n_burst0 (w : World) : Calls Try.prog 18 #[.slice Option.none 0 0, .int .i64 99, .int .u32 0] w fun e w' => AnsN ([], 0) w e w' := by
  have h : burstV [] 99 (0 : Int).toNat = ([], 0) := by decide +kernel
  have := burst_any Option.none 0 [] 99 0 w none_bytes Rd.nil (by decide) (by decide) (by decide) (by decide) (by decide)
  rw [h] at this
  exact this.mono fun e w' h => AnsN.of h (Below.refl _ _)
theorem n_of (w : World) : Calls Try.prog 11 #[.slice (some ⟨w.heap.size, 0, Option.none⟩) 1048577 1048577] (w.alloc (.cells (madeCells (Value.int .u8 0).cells 1048577) 5)) fun e w' => e = .returned (.tuple #[.int .u32 0, .int .i64 4]) ∧ Below w.heap.size w w' := by
  have hl : (List.replicate 1048577 (0 : Int)).length = 1048577 := List.length_replicate
  have hr : Rd .u8 (w.alloc (.cells (madeCells (Value.int .u8 0).cells 1048577) 5)) (some ⟨w.heap.size, 0, Option.none⟩) (List.replicate 1048577 (0 : Int)) := by
    have ho := made_owns w 5 .u8 1048577 (by unfold maxLen; omega)
    obtain ⟨a, c, e, _, hr⟩ := Rd.of_owns ho
    injection e with e1 e2 e3
    rw [e1]; exact hr
  have hz : Bytes (List.replicate 1048577 (0 : Int)) := fun z hz => by obtain ⟨_, rfl⟩ := List.mem_replicate.1 hz; omega
  have := of_any (some ⟨w.heap.size, 0, Option.none⟩) 1048577 _ _ hz hr (by rw [hl]; decide)
  rw [ofV_hi (by rw [hl]; decide), hl] at this
  exact this.mono fun e w' h => ⟨h.1, bstep ((Below.refl _ _).alloc (Nat.le_refl _) _) h.2⟩

theorem str0 : strOfNums [0, 0, 0, 0] = ⟨#[0, 0, 0, 0]⟩ := by decide +kernel
theorem str1 : strOfNums [128, 1] = ⟨#[128, 1]⟩ := by decide +kernel

set_option maxRecDepth 100000 in
set_option maxHeartbeats 8000000 in
theorem crcNames (w : World) : Calls Try.prog 7 #[] w fun e w' => e = .returned (.bool true) ∧ Below w.heap.size w w' := by
  obtain ⟨i0, hi, hz0, hz1, hz2⟩ := info_parts info8
  have hmk := Lib.hid (fun w => run_make_zeros (P := Try.prog) 23 5 i0 .u8 Try.underlying23 hi hz0 hz1 1048577 (by rw [hz2]; decide) (by decide) w)
  clear hi hz0 hz1 hz2
  go_enter Try.func7, Try.ntmps7
  go_wp2_with fail
  refine (n_seal w).mono ?_
  rintro e w1 ⟨a1, c1, rfl, q1, hb1⟩
  have HQ1 := Lib.hid q1
  have HB1 := Lib.hid hb1
  have HC1 := Lib.hid (Below.refl w1.heap.size w1)
  clear q1 hb1
  go_wp2_with fail
  refine (n_open0 w1).mono ?_
  rintro e w2 ⟨a2, c2, rfl, q2, hb2⟩
  have HB2 := Lib.hid (bstep HB1.out hb2)
  have HC2 := Lib.hid (bstep HC1.out hb2)
  clear q2 hb2
  go_wp2_with fail
  refine (n_open1 w2).mono ?_
  rintro e w3 ⟨a3, c3, rfl, q3, hb3⟩
  have HB3 := Lib.hid (bstep HB2.out hb3)
  have HC3 := Lib.hid (bstep HC2.out hb3)
  clear q3 hb3
  go_wp2_with fail
  refine (n_open2 w3).mono ?_
  rintro e w4 ⟨a4, c4, rfl, q4, hb4⟩
  have HB4 := Lib.hid (bstep HB3.out hb4)
  have HC4 := Lib.hid (bstep HC3.out hb4)
  clear q4 hb4
  go_wp2_with fail
  refine (n_burst w4 7 3 ([128, 1], 0) (by decide) (by decide) (by decide) (by decide) (by decide +kernel)).mono ?_
  rintro e w5 ⟨a5, c5, rfl, q5, hb5⟩
  have HQ5 := Lib.hid q5
  have HD5 := Lib.hid (Below.refl w5.heap.size w5)
  have HB5 := Lib.hid (bstep HB4.out hb5)
  have HC5 := Lib.hid (bstep HC4.out hb5)
  clear q5 hb5
  go_wp2_with fail
  refine (n_burst w5 15 2 ([], 2) (by decide) (by decide) (by decide) (by decide) (by decide +kernel)).mono ?_
  rintro e w6 ⟨a6, c6, rfl, q6, hb6⟩
  have HB6 := Lib.hid (bstep HB5.out hb6)
  have HC6 := Lib.hid (bstep HC5.out hb6)
  have HD6 := Lib.hid (bstep HD5.out hb6)
  clear q6 hb6
  go_wp2_with fail
  refine (n_burst w6 (-1) 0 ([], 2) (by decide) (by decide) (by decide) (by decide) (by decide +kernel)).mono ?_
  rintro e w7 ⟨a7, c7, rfl, q7, hb7⟩
  have HB7 := Lib.hid (bstep HB6.out hb7)
  have HC7 := Lib.hid (bstep HC6.out hb7)
  have HD7 := Lib.hid (bstep HD6.out hb7)
  clear q7 hb7
  go_wp2_with fail
  refine (n_burst0 w7).mono ?_
  rintro e w8 ⟨a8, c8, rfl, q8, hb8⟩
  have HB8 := Lib.hid (bstep HB7.out hb8)
  have HC8 := Lib.hid (bstep HC7.out hb8)
  have HD8 := Lib.hid (bstep HD7.out hb8)
  clear q8 hb8
  have hmk8 : (Instr.makeSlice 23 (.int .i64 1048577) (.int .i64 1048577)).run Try.prog w8 = .ok (.slice (some ⟨w8.heap.size, 0, Option.none⟩) 1048577 1048577) (w8.alloc (.cells (madeCells (Value.int .u8 0).cells 1048577) 5)) := hmk.out w8
  go_wp2_with fail
  refine (n_of w8).mono ?_
  rintro e w9 ⟨rfl, hb9⟩
  have HB9 := Lib.hid (bstep HB8.out hb9)
  have HC9 := Lib.hid (bstep HC8.out hb9)
  have HD9 := Lib.hid (bstep HD8.out hb9)
  clear hmk8 hb9
  go_wp2_with fail
  refine (alive_any w9).mono ?_
  rintro e w10 ⟨rfl, hb10⟩
  have HB10 := Lib.hid (bstep HB9.out hb10)
  have q1 := conv_rd (n := 4) (cap := c1) (HQ1.out.mono (bstep HC9.out hb10) (Nat.le_refl _)) rfl
  have q5 := conv_rd (n := 2) (cap := c5) (HQ5.out.mono (bstep HD9.out hb10) (Nat.le_refl _)) rfl
  rw [str0] at q1
  rw [str1] at q5
  clear hb10
  go_wp2
  go_ret
  exact ⟨rfl, HB10.out⟩

end Go.Proofs.Ytdddgbgfdaokiaa.Crc
