/- The walks of the references' small functions on bytes and numbers: missiveref01.White, lower; missiveref11.is, leap, Length, Civil. -/
import Derived.Test.YtbhhaehdoiaihaaGreatDoorWo
namespace Go.Proofs.YtbhhaehdoiaihaaGreatDoor
open Go.RowKit

theorem rlower_any (c : Int) (h0 : 0 ≤ c) (h1 : c ≤ 255) (w : World) :
    Calls Tryz.prog 123 #[.int .u8 c] w fun e w' => e = .returned (.int .u8 (Pm.lowerI c)) ∧ w = w' := by
  by_cases ha : 65 ≤ c
  · by_cases hb : c ≤ 90
    · have e : Pm.lowerI c = c + 32 := if_pos ⟨ha, hb⟩
      rw [e]
      go_enter Tryz.func123, Tryz.ntmps123
      go_wp2
      go_ret
      exact ⟨rfl, rfl⟩
    · have e : Pm.lowerI c = c := if_neg (by omega)
      rw [e]
      go_enter Tryz.func123, Tryz.ntmps123
      go_wp2
      go_ret
      exact ⟨rfl, rfl⟩
  · have e : Pm.lowerI c = c := if_neg (by omega)
    rw [e]
    go_enter Tryz.func123, Tryz.ntmps123
    go_wp2
    go_ret
    exact ⟨rfl, rfl⟩
theorem rlower_byte (c : UInt8) (w : World) :
    Calls Tryz.prog 123 #[.int .u8 c.toNat] w fun e w' => e = .returned (.int .u8 (Pm.lowB c).toNat) ∧ w = w' := by
  have h := rlower_any c.toNat (by omega) (by have := c.toNat_lt; omega) w
  rw [← Pm.lowB_toNat] at h
  exact h
theorem rwhite_any (c : Int) (w : World) :
    Calls Tryz.prog 97 #[.int .u8 c] w fun e w' => e = .returned (.bool (Pm.whiteI c)) ∧ w = w' := by
  unfold Pm.whiteI
  go_enter Tryz.func97, Tryz.ntmps97
  go_wp2
  all_goals go_ret
  all_goals exact ⟨by simp [*], rfl⟩
theorem ris_any (t : Int) (w : World) :
    Calls Tryz.prog 50 #[.int .i64 t] w fun e w' => e = .returned (.bool (Pm.isTime t)) ∧ w = w' := by
  unfold Pm.isTime Pm.maxTime
  go_enter Tryz.func50, Tryz.ntmps50
  go_wp2
  all_goals go_ret
  all_goals exact ⟨by simp [*]; try omega, rfl⟩

theorem rleap_any (y : Int) (h0 : 0 ≤ y) (h1 : y ≤ 10000) (w : World) :
    Calls Tryz.prog 75 #[.int .i64 y] w fun e w' => e = .returned (.bool (Pm.leapY y)) ∧ w = w' := by
  unfold Pm.leapY
  by_cases e4 : y % 4 = 0
  · by_cases e100 : y % 100 = 0
    · by_cases e400 : y % 400 = 0
      · go_enter Tryz.func75, Tryz.ntmps75
        go_wp2
        go_ret
        exact ⟨by simp [e4, e100, e400], rfl⟩
      · go_enter Tryz.func75, Tryz.ntmps75
        go_wp2
        go_ret
        exact ⟨by simp [e4, e100, e400], rfl⟩
    · go_enter Tryz.func75, Tryz.ntmps75
      go_wp2
      go_ret
      exact ⟨by simp [e4, e100], rfl⟩
  · go_enter Tryz.func75, Tryz.ntmps75
    go_wp2
    go_ret
    exact ⟨by simp [e4], rfl⟩

theorem rLength_any (y m : Int) (h0 : 0 ≤ y) (h1 : y ≤ 10000) (hm1 : 1 ≤ m) (hm2 : m ≤ 12) (w : World) :
    Calls Tryz.prog 76 #[.int .i64 y, .int .i64 m] w fun e w' => e = .returned (.int .i64 (Pm.daysOf y m)) ∧ w = w' := by
  have hl := Lib.hid (rleap_any y h0 h1 w)
  by_cases h2 : m = 2
  · subst h2
    cases hy : Pm.leapY y with
    | true =>
      have e : Pm.daysOf y 2 = 29 := by unfold Pm.daysOf Pm.leap1; rw [hy]; rfl
      rw [e]
      rw [hy] at hl
      go_enter Tryz.func76, Tryz.ntmps76
      go_wp2_with (go_at_call 75; refine (hl.out).mono ?_; rintro e w' ⟨rfl, rfl⟩)
      go_ret
      exact ⟨rfl, rfl⟩
    | false =>
      have e : Pm.daysOf y 2 = 28 := by unfold Pm.daysOf Pm.leap1; rw [hy]; rfl
      rw [e]
      rw [hy] at hl
      go_enter Tryz.func76, Tryz.ntmps76
      go_wp2_with (go_at_call 75; refine (hl.out).mono ?_; rintro e w' ⟨rfl, rfl⟩)
      go_ret
      exact ⟨rfl, rfl⟩
  clear hl
  have e : Pm.daysOf y m = Pm.mdays (m - 1).toNat := by unfold Pm.daysOf; rw [if_neg h2]; omega
  rw [e]
  have hm : m = 1 ∨ m = 3 ∨ m = 4 ∨ m = 5 ∨ m = 6 ∨ m = 7 ∨ m = 8 ∨ m = 9 ∨ m = 10 ∨ m = 11 ∨ m = 12 := by omega
  clear h0 h1 hm1 hm2 h2 e
  rcases hm with rfl | rfl | rfl | rfl | rfl | rfl | rfl | rfl | rfl | rfl | rfl
  all_goals
    go_enter Tryz.func76, Tryz.ntmps76
    go_wp2
    go_ret
    exact ⟨rfl, rfl⟩
end Go.Proofs.YtbhhaehdoiaihaaGreatDoor
