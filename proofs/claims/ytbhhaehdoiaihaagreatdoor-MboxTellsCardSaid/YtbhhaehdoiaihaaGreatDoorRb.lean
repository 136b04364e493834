/- The walk of missiveref11.Civil. -/
import Derived.Test.YtbhhaehdoiaihaaGreatDoorRa
namespace Go.Proofs.YtbhhaehdoiaihaaGreatDoor
open Go.RowKit

theorem before_0 : Pm.before 1970 = 0 := by decide
theorem size_leap (y : Int) : (if Pm.leapY y then (366 : Int) else 365) = 365 + Pm.leap1 y := by
  unfold Pm.leap1; split <;> rfl

set_option maxHeartbeats 1600000 in
theorem rcivil_any (ms : Int) (h0 : 0 ≤ ms) (h1 : ms ≤ 70368744177664) (w : World) :
    Calls Tryz.prog 51 #[.int .i64 ms] w (CivPost (ms / 86400000) w) := by
  have ht : Pm.isTime ms = true := by unfold Pm.isTime Pm.maxTime; simp; omega
  have his := ris_any ms w
  rw [ht] at his
  have HI := Lib.hid his
  clear his ht
  have hn0 : 0 ≤ ms / 86400000 := by omega
  have hn1 : ms / 86400000 ≤ 814453 := by omega
  have HL := Lib.hid (fun y (h : 1970 ≤ y ∧ y ≤ 4201) => rleap_any y (by omega) (by omega) w)
  have HM := Lib.hid (fun y m (h : 1970 ≤ y ∧ y ≤ 4200) (hm : 1 ≤ m ∧ m ≤ 12) => rLength_any y m (by omega) (by omega) hm.1 hm.2 w)
  have hb0 := before_0
  go_enter Tryz.func51, Tryz.ntmps51
  go_wp2_with (go_at_call 50; refine (HI.out).mono ?_; rintro e w' ⟨rfl, rfl⟩)
  go_loop [5, 6, 7] (fun d y z => ∃ k : Int, 1970 ≤ k ∧ k ≤ 4200 ∧ Pm.before k ≤ ms / 86400000 ∧ d = .int .i64 (ms / 86400000 - Pm.before k) ∧ y = .int .i64 k ∧ z = .int .i64 (365 + Pm.leap1 k)) (fun _ y _ => (4300 - intOf y).toNat)
  case atStart => exact ⟨1970, by omega, by omega, by omega, by rw [hb0]; go_num, rfl, rfl⟩
  case round =>
    obtain ⟨k, hk1, hk2, hk3, rfl, rfl, rfl⟩ := hrel
    have hk4 : k < 4200 := by
      by_cases e : 4200 ≤ k
      · have := before_hi k e; omega
      · omega
    have hs := before_succ k
    have hbd := before_bd k hk1 (by omega)
    have hlb := leap1_bd k
    by_cases hc : 365 + Pm.leap1 k ≤ ms / 86400000 - Pm.before k
    · have hl := HL.out (k + 1) (by omega)
      have hbd2 := before_bd (k + 1) (by omega) (by omega)
      cases hy : Pm.leapY (k + 1) with
      | true =>
        rw [hy] at hl
        have hl1 : Pm.leap1 (k + 1) = 1 := by unfold Pm.leap1; rw [hy]; rfl
        have HLL := Lib.hid hl
        clear hl
        go_wp2_with (go_at_call 75; refine (HLL.out).mono ?_; rintro e w' ⟨rfl, rfl⟩)
        go_round
        case rel => exact ⟨k + 1, by omega, by omega, by omega, by go_num, rfl, by rw [hl1]; rfl⟩
        case measure => simp [intOf]; omega
      | false =>
        rw [hy] at hl
        have hl1 : Pm.leap1 (k + 1) = 0 := by unfold Pm.leap1; rw [hy]; rfl
        have HLL := Lib.hid hl
        clear hl
        go_wp2_with (go_at_call 75; refine (HLL.out).mono ?_; rintro e w' ⟨rfl, rfl⟩)
        go_round
        case rel => exact ⟨k + 1, by omega, by omega, by omega, by go_num, rfl, by rw [hl1]; rfl⟩
        case measure => simp [intOf]; omega
    · have hl := cum_12 k
      have hx : ms / 86400000 - Pm.before k < Pm.cum k 12 := by omega
      clear hs hl
      go_wp2
      go_loop [5, 8] (fun d m => ∃ j : Nat, j ≤ 11 ∧ m = .int .i64 ((j : Int) + 1) ∧ 0 ≤ ms / 86400000 - Pm.before k - Pm.cum k j ∧ d = .int .i64 (ms / 86400000 - Pm.before k - Pm.cum k j)) (fun _ m => (12 - intOf m).toNat)
      case atStart => exact ⟨0, by omega, by go_num, by simp [Pm.cum]; omega, by simp [Pm.cum]⟩
      case round =>
        obtain ⟨j, hj, rfl, hn, rfl⟩ := hrel
        obtain ⟨q1, q2⟩ := cum_bd k j
        obtain ⟨q3, q4⟩ := daysOf_bd k ((j : Int) + 1)
        have hcs : Pm.cum k (j + 1) = Pm.cum k j + Pm.daysOf k ((j : Int) + 1) := rfl
        by_cases hd : Pm.daysOf k ((j : Int) + 1) ≤ ms / 86400000 - Pm.before k - Pm.cum k j
        · have hj' : j < 11 := by
            by_cases e : j = 11
            · subst e; have e12 : Pm.cum k (11 + 1) = Pm.cum k 12 := rfl; omega
            · omega
          have HCS := Lib.hid hcs
          clear hcs
          go_wp2_with (go_at_call 76; refine (HM.out _ _ (by omega) (by omega)).mono ?_; rintro e w' ⟨rfl, rfl⟩)
          go_round
          case rel => exact ⟨j + 1, by omega, by go_num, by rw [HCS.out]; omega, by rw [HCS.out]; go_num⟩
          case measure => simp [intOf]; omega
        · clear hcs
          go_wp2_with (go_at_call 76; refine (HM.out _ _ (by omega) (by omega)).mono ?_; rintro e w' ⟨rfl, rfl⟩)
          go_ret3
          refine ⟨k, (j : Int) + 1, ms / 86400000 - Pm.before k - Pm.cum k j + 1, ?_, rfl, rfl⟩
          refine ⟨hk1, hk2, by omega, by omega, by omega, by omega, ?_⟩
          rw [show ((j : Int) + 1 - 1).toNat = j by omega]; omega
end Go.Proofs.YtbhhaehdoiaihaaGreatDoor
