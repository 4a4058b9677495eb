/- Contracts of package occ and of the document's answer: May, Check, asked, Has. -/
import Derived.Test.YtnfjabohnjbgbaaDoorOcc1
namespace Go.Proofs.YtnfjabohnjbgbaaDoor.Occ
open Go.RowKit Go.Shelf Go.Proofs.YtnfjabohnjbgbaaDoor

set_option maxRecDepth 100000 in
set_option maxHeartbeats 1000000 in
theorem May_any (a : Option Addr) (ca : Nat) (ws : List Int) (n : Nat) (w : World) (hu : U64 ws) (hr : Rd .u64 w a ws) (hl : ws.length ≤ 100000) (hn : n ≤ 65536) :
    Calls Tryd.prog 32 #[.slice a ws.length ca, .int .i64 n] w fun e w' => e = .returned (.bool (mayB ws n)) ∧ w = w' := by
  by_cases hlen : ws.length = (n + 63) / 64
  · have hd : ((n : Int) + 63) / 64 = (ws.length : Int) := by omega
    have HIS := Lib.hid (fun s (hs : s < 64 * ws.length) w' (hr : Rd .u64 w' a ws) => Is_any a ca ws s w' hu hr hl hs)
    have HR := Lib.hid hr
    have HM : Hid (mayB ws n = true ↔ ∀ s, n ≤ s → s < 64 * ws.length → occB ws s = false) := Lib.hid ⟨fun h => (mayB_iff.1 h).2, fun h => mayB_iff.2 ⟨hlen, h⟩⟩
    have h64 : n ≤ 64 * ws.length := by omega
    clear hu hr hlen
    generalize hm : mayB ws n = m at *
    clear hm
    go_enter Tryd.func32, Tryd.ntmps32
    go_wp2
    clear hd
    go_loop [5] (fun i => ∃ k : Nat, n ≤ k ∧ k ≤ 64 * ws.length ∧ i = .int .i64 k ∧ ∀ s, n ≤ s → s < k → occB ws s = false) (fun i => 64 * ws.length - (intOf i).toNat)
    case atStart => exact ⟨n, Nat.le_refl _, h64, rfl, fun s h1 h2 => by omega⟩
    case round =>
      obtain ⟨k, hk1, hk2, rfl, hall⟩ := hrel
      have HALL := Lib.hid hall
      clear hall
      by_cases hlt : k < 64 * ws.length
      · have HI := Lib.hid (HIS.out k hlt _ HR.out)
        by_cases ho : occB ws k = true
        · rw [ho] at HI
          have hmf : m = false := by
            cases m with
            | false => rfl
            | true => have := HM.out.1 rfl k hk1 hlt; rw [ho] at this; cases this
          have HF := Lib.hid hmf
          clear hmf
          have hlt2 : (k : Int) < 64 * (ws.length : Int) := by omega
          go_wp2_with fail
          refine HI.out.mono ?_
          rintro e w' ⟨rfl, rfl⟩
          go_wp2
          go_ret
          exact ⟨ret_b HF.out.symm, rfl⟩
        · rw [Bool.not_eq_true] at ho
          rw [ho] at HI
          have HO := Lib.hid ho
          clear ho
          have hlt2 : (k : Int) < 64 * (ws.length : Int) := by omega
          go_wp2_with fail
          refine HI.out.mono ?_
          rintro e w' ⟨rfl, rfl⟩
          go_wp2
          go_round
          case rel => exact ⟨k + 1, by omega, by omega, by go_num, fun s h1 h2 => by
            by_cases hs : s = k
            · rw [hs]; exact HO.out
            · exact HALL.out s h1 (by omega)⟩
          case measure => simp [intOf]; omega
      · have hmt : m = true := HM.out.2 (fun s h1 h2 => HALL.out s h1 (by omega))
        have HF := Lib.hid hmt
        clear hmt
        have hlt2 : ¬ (k : Int) < 64 * (ws.length : Int) := by omega
        go_wp2
        go_ret
        exact ⟨ret_b HF.out.symm, rfl⟩
  · have hd : ((n : Int) + 63) / 64 = (((n + 63) / 64 : Nat) : Int) := by omega
    have hmf : mayB ws n = false := by rw [Bool.eq_false_iff]; exact fun g => hlen (mayB_iff.1 g).1
    rw [hmf]
    clear hr hu hmf
    generalize (n + 63) / 64 = q at *
    have hne : ((ws.length : Int) != (q : Int)) = true := by rw [bne_iff_ne]; omega
    clear hlen
    go_enter Tryd.func32, Tryd.ntmps32
    go_wp2
    go_ret
    exact ⟨rfl, rfl⟩

set_option maxRecDepth 100000 in
set_option maxHeartbeats 1000000 in
theorem refCheck_any (a : Option Addr) (ca : Nat) (ws : List Int) (n : Int) (w : World) (hu : U64 ws) (hr : Rd .u64 w a ws) (hl : ws.length ≤ 100000) :
    Calls Tryd.prog 14 #[.slice a ws.length ca, .int .i64 n] w fun e w' => e = .returned (.int .i64 (chkV ws n)) ∧ w = w' := by
  by_cases h0 : n < 0
  · rw [chkV_far (.inl h0)]
    clear hr hu
    go_enter Tryd.func14, Tryd.ntmps14
    go_wp2
    go_ret
    exact ⟨rfl, rfl⟩
  by_cases h1 : 65536 < n
  · rw [chkV_far (.inr h1)]
    clear hr hu
    go_enter Tryd.func14, Tryd.ntmps14
    go_wp2
    go_ret
    exact ⟨rfl, rfl⟩
  obtain ⟨n, rfl⟩ := Int.eq_ofNat_of_zero_le (show 0 ≤ n by omega)
  rw [chkV_in (by omega)]
  have HM := Lib.hid (May_any a ca ws n w hu hr hl (by omega))
  clear hr hu
  generalize mayB ws n = m at *
  cases m
  all_goals
    go_enter Tryd.func14, Tryd.ntmps14
    go_wp2_with fail
    refine HM.out.mono ?_
    rintro e w' ⟨rfl, rfl⟩
    go_wp2
    go_ret
    exact ⟨rfl, rfl⟩

end Go.Proofs.YtnfjabohnjbgbaaDoor.Occ
