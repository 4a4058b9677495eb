/- Contracts of the document's answer: Places. -/
import Derived.Test.YtnfjabohnjbgbaaDoorOcc7
import Derived.Test.YtnfjabohnjbgbaaDoorOccL
namespace Go.Proofs.YtnfjabohnjbgbaaDoor.Occ
open Go.RowKit Go.Shelf Go.Proofs.YtnfjabohnjbgbaaDoor

def nats (l : List Nat) : List Value := l.map (fun x : Nat => Value.int .i64 (x : Int))
theorem nats_length (l : List Nat) : (nats l).length = l.length := by unfold nats; simp
theorem infoI : (Tryd.prog.info? 3).map (fun i => (i.zero, i.size, i.bytes)) = some (some (.int .i64 0), 1, 8) := by kernel_rfl

set_option maxRecDepth 100000 in
set_option maxHeartbeats 2000000 in
theorem Places_any (a : Option Addr) (ca : Nat) (ws : List Int) (f t : Nat) (w : World) (hu : U64 ws) (hr : Rd .u64 w a ws) (hl : ws.length ≤ 100000) (hft : f ≤ t) (ht : t ≤ 64 * ws.length) :
    Calls Tryd.prog 30 #[.slice a ws.length ca, .int .i64 f, .int .i64 t] w fun e w' => ∃ v, e = .returned v ∧ w'.ownsRow w.heap.size 3 1 v (occs ws f (t - f)).length (nats (occs ws f (t - f))) ∧ Below w.heap.size w w' := by
  obtain ⟨i0, hi, hz0, hz1, hz2⟩ := info_parts infoI
  have HIS := Lib.hid (fun s w1 hr1 hs => Is_any a ca ws s w1 hu hr1 hl hs)
  have HR := Lib.hid hr
  have HFT := Lib.hid hft
  clear hu hr
  go_enter Tryd.func30, Tryd.ntmps30
  go_wp2
  go_loopw [7, 8] (fun v i wr => ∃ k : Nat, f + k ≤ t ∧ i = .int .i64 ((f : Int) + (k : Int)) ∧ wr.ownsRow w.heap.size 3 1 v (occs ws f k).length (nats (occs ws f k)) ∧ Below w.heap.size w wr) (fun _ i _ => t - (intOf i).toNat)
  case atStart => exact ⟨0, hft, by go_num, (World.ownsRow_nil w w.heap.size 3 1 : w.ownsRow w.heap.size 3 1 (.slice Option.none 0 0) (occs ws f 0).length (nats (occs ws f 0))), Below.refl _ _⟩
  case round =>
    obtain ⟨k, hk, rfl, hown, hbl⟩ := hrel
    have HO := Lib.hid hown
    have HB := Lib.hid hbl
    clear hown hbl
    have HS := Lib.hid (occs_succ ws f k)
    have hol := occs_length ws f k
    generalize hL : occs ws f k = L at *
    have HL := Lib.hid hL
    clear hL
    by_cases hlt : f + k < t
    · have HI := Lib.hid (HIS.out (f + k) _ (HR.out.mono HB.out (Nat.le_refl _)) (by omega))
      rw [Int.natCast_add] at HI
      have hlt2 : (f : Int) + (k : Int) < (t : Int) := by omega
      by_cases ho : occB ws (f + k) = true
      · rw [ho] at HI HS
        go_wp2_with fail
        refine HI.out.mono ?_
        rintro e w' ⟨rfl, rfl⟩
        go_wp2_with (at_builtin; refine wpList_append_news HO.out HB.out.size rfl _ _ 52 rfl i0 (.int .i64 0) 8 Tryd.underlying52 hi hz0 hz1 hz2 rfl _ 1 rfl rfl (by intro u hu; simp at hu; subst hu; rfl) (by unfold maxLen; simp; omega) (by simp; omega) ?_)
        intro v' w1 hown' hb'
        have HO2 := Lib.hid hown'
        have HB2 := Lib.hid (HB.out.trans hb')
        clear hown' hb'
        go_wp2
        go_roundw
        case rel => exact ⟨k + 1, by omega, by go_num, by rw [HS.out, if_pos trivial, List.length_append]; unfold nats; rw [List.map_append]; exact HO2.out, HB2.out⟩
        case measure => simp [intOf]; omega
      · rw [Bool.not_eq_true] at ho
        rw [ho] at HI HS
        go_wp2_with fail
        refine HI.out.mono ?_
        rintro e w' ⟨rfl, rfl⟩
        go_wp2
        go_roundw
        case rel => exact ⟨k + 1, by omega, by go_num, by rw [HS.out, if_neg (by decide), List.append_nil]; exact HO.out, HB.out⟩
        case measure => simp [intOf]; omega
    · have HE : Hid (t - f = k) := Lib.hid (by omega)
      have hge : ¬ (f : Int) + (k : Int) < (t : Int) := by omega
      go_wp2
      go_ret
      exact ⟨_, rfl, by rw [HE.out, HL.out]; exact HO.out, HB.out⟩

end Go.Proofs.YtnfjabohnjbgbaaDoor.Occ
