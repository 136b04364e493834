import Derived.Test.YtbhhaehdoiaihaaGreatDoorWa
import Derived.Test.YtbhhaehdoiaihaaGreatDoorAid
namespace Go.Proofs.YtbhhaehdoiaihaaGreatDoor
open Go.RowKit

theorem before_succ (y : Int) : Pm.before (y + 1) = Pm.before y + 365 + Pm.leap1 y := by
  unfold Pm.before Pm.leaps Pm.leap1 Pm.leapY
  by_cases e4 : y % 4 = 0 <;> by_cases e100 : y % 100 = 0 <;> by_cases e400 : y % 400 = 0 <;> simp [e4, e100, e400] <;> omega
theorem before_hi (y : Int) (h0 : 4200 ≤ y) : 814491 ≤ Pm.before y := by
  unfold Pm.before Pm.leaps; omega
theorem before_guess (n : Int) (h0 : 0 ≤ n) (h1 : n ≤ 814453) : Pm.before (1970 + n / 366) ≤ n := by
  unfold Pm.before Pm.leaps; omega
theorem cum_12 (y : Int) : Pm.cum y 12 = 365 + Pm.leap1 y := by
  simp [Pm.cum, Pm.daysOf, Pm.mdays]; omega

def CivPost (n : Int) (w : World) (e : Ending) (w' : World) : Prop :=
  ∃ y m d : Int, Pm.Civ n y m d ∧ e = .returned (.tuple #[.int .i64 y, .int .i64 m, .int .i64 d]) ∧ w = w'

set_option maxHeartbeats 800000 in
theorem civil_rel (ms : Int) (h0 : 0 ≤ ms) (h1 : ms ≤ 70368744177664) (w : World) (ht : Tab w) :
    Calls Tryz.prog 39 #[.int .i64 ms] w (CivPost (ms / 86400000) w) := by
  have hist : Hid (Calls Tryz.prog 38 #[.int .i64 ms] w fun e w' => e = .returned (.bool true) ∧ w = w') :=
    (isTime_any ms w).mono fun e w' ⟨a, b⟩ => ⟨by rw [a]; simp [Pm.isTime, Pm.maxTime, h0, h1], b⟩
  have hn0 : 0 ≤ ms / 86400000 := by omega
  have hn1 : ms / 86400000 ≤ 814453 := by omega
  have g0 := before_guess (ms / 86400000) hn0 hn1
  have hbef : Hid (∀ y : Int, 1970 ≤ y → y ≤ 10000 → Calls Tryz.prog 57 #[.int .i64 y] w fun e w' => e = .returned (.int .i64 (Pm.before y)) ∧ w = w') :=
    fun y a b => before_any y a b w
  have hds : Hid (∀ y i : Int, 1970 ≤ y → y ≤ 10000 → 1 ≤ i → i ≤ 12 → Calls Tryz.prog 58 #[.int .i64 y, .int .i64 i] w fun e w' => e = .returned (.int .i64 (Pm.daysOf y i)) ∧ w = w') :=
    fun y i a b h1 h2 => daysOf_any y i a b h1 h2 w ht
  clear ht
  go_enter Tryz.func39, Tryz.ntmps39
  go_wp2_with (first
    | (go_at_call 38; refine (hist.out).mono ?_; rintro e w' ⟨rfl, rfl⟩)
    | (go_at_call 57; refine (hbef.out _ (by omega) (by omega)).mono ?_; rintro e w' ⟨rfl, rfl⟩))
  go_loop [2] (fun t => ∃ y : Int, 1970 ≤ y ∧ y ≤ 4200 ∧ Pm.before y ≤ ms / 86400000 ∧ t = .int .i64 y) (fun t => (4300 - intOf t).toNat)
  case atStart => exact ⟨_, by omega, by omega, g0, rfl⟩
  case round =>
    obtain ⟨y, hy1, hy2, hy3, rfl⟩ := hrel
    have hy4 : y < 4200 := by
      by_cases e : 4200 ≤ y
      · have := before_hi y e; omega
      · omega
    obtain ⟨b1, b2⟩ := before_bd y hy1 (by omega)
    obtain ⟨b3, b4⟩ := before_bd (y + 1) (by omega) (by omega)
    by_cases hc : Pm.before (y + 1) ≤ ms / 86400000
    · go_wp2_with (go_at_call 57; refine (hbef.out _ (by omega) (by omega)).mono ?_; rintro e w' ⟨rfl, rfl⟩)
      go_round
      case rel => exact ⟨y + 1, by omega, by omega, hc, rfl⟩
      case measure => simp [intOf]; omega
    · have hc' : ms / 86400000 < Pm.before (y + 1) := by omega
      go_wp2_with (go_at_call 57; refine (hbef.out _ (by omega) (by omega)).mono ?_; rintro e w' ⟨rfl, rfl⟩)
      have hs := before_succ y
      have hl := cum_12 y
      have hx : ms / 86400000 - Pm.before y < Pm.cum y 12 := by omega
      clear hs hl hc
      go_loop [3, 5] (fun m n => ∃ k : Nat, k ≤ 11 ∧ m = .int .i64 ((k : Int) + 1) ∧ 0 ≤ ms / 86400000 - Pm.before y - Pm.cum y k ∧ n = .int .i64 (ms / 86400000 - Pm.before y - Pm.cum y k)) (fun m _ => (12 - intOf m).toNat)
      case atStart => exact ⟨0, by omega, by go_num, by simp [Pm.cum]; omega, by simp [Pm.cum]⟩
      case round =>
        obtain ⟨k, hk, rfl, hn, rfl⟩ := hrel
        obtain ⟨q1, q2⟩ := cum_bd y k
        obtain ⟨q3, q4⟩ := daysOf_bd y ((k : Int) + 1)
        have hcs : Pm.cum y (k + 1) = Pm.cum y k + Pm.daysOf y ((k : Int) + 1) := rfl
        by_cases hd : Pm.daysOf y ((k : Int) + 1) ≤ ms / 86400000 - Pm.before y - Pm.cum y k
        · have hk' : k < 11 := by
            by_cases e : k = 11
            · subst e; have e12 : Pm.cum y (11 + 1) = Pm.cum y 12 := rfl; omega
            · omega
          have HCS := Lib.hid hcs
          clear hcs
          go_wp2_with (go_at_call 58; refine (hds.out _ _ (by omega) (by omega) (by omega) (by omega)).mono ?_; rintro e w' ⟨rfl, rfl⟩)
          go_round
          case rel => exact ⟨k + 1, by omega, by go_num, by rw [HCS.out]; omega, by rw [HCS.out]; go_num⟩
          case measure => simp [intOf]; omega
        · clear hcs
          go_wp2_with (go_at_call 58; refine (hds.out _ _ (by omega) (by omega) (by omega) (by omega)).mono ?_; rintro e w' ⟨rfl, rfl⟩)
          go_ret3
          refine ⟨y, (k : Int) + 1, ms / 86400000 - Pm.before y - Pm.cum y k + 1, ?_, rfl, rfl⟩
          refine ⟨hy1, hy2, by omega, by omega, by omega, by omega, ?_⟩
          rw [show ((k : Int) + 1 - 1).toNat = k by omega]; omega
end Go.Proofs.YtbhhaehdoiaihaaGreatDoor
