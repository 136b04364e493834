/- The walk of missiveref11.Start. -/
import Derived.Test.YtbhhaehdoiaihaaGreatDoorRi
namespace Go.Proofs.YtbhhaehdoiaihaaGreatDoor
open Go.RowKit

def StartPost (r : Option Int) (w : World) (e : Ending) (w' : World) : Prop := e = .returned (.tuple #[.int .i64 ((r.getD 0) * 86400000), .bool r.isSome]) ∧ w = w'

set_option maxHeartbeats 3200000 in
theorem rstart_any (y m d : Int) (hy0 : 0 ≤ y) (hy1 : y ≤ 9999) (hm0 : 0 ≤ m) (hm1 : m ≤ 12) (hd0 : 0 ≤ d) (hd1 : d ≤ 99) (w : World) :
    Calls Tryz.prog 74 #[.int .i64 y, .int .i64 m, .int .i64 d] w (StartPost (Pm.dayNumber y m d) w) := by
  unfold StartPost
  have HL := Lib.hid (fun y (h : 1970 ≤ y ∧ y ≤ 9999) => rleap_any y (by omega) (by omega) w)
  by_cases c1 : y < 1970
  · have hn : Pm.dayNumber y m d = none := if_pos (by omega)
    rw [hn]
    go_enter Tryz.func74, Tryz.ntmps74
    go_wp2
    go_ret2
    exact ⟨rfl, rfl⟩
  by_cases c2 : m < 1
  · have hn : Pm.dayNumber y m d = none := if_pos (by omega)
    rw [hn]
    go_enter Tryz.func74, Tryz.ntmps74
    go_wp2
    go_ret2
    exact ⟨rfl, rfl⟩
  by_cases c3 : d < 1
  · have hn : Pm.dayNumber y m d = none := if_pos (by omega)
    rw [hn]
    go_enter Tryz.func74, Tryz.ntmps74
    go_wp2
    go_ret2
    exact ⟨rfl, rfl⟩
  have HM := Lib.hid (fun j (h : 1 ≤ j ∧ j ≤ 12) => rLength_any y j hy0 (by omega) h.1 h.2 w)
  obtain ⟨q3, q4⟩ := daysOf_bd y m
  by_cases c4 : Pm.daysOf y m < d
  · have hn : Pm.dayNumber y m d = none := if_pos (by omega)
    rw [hn]
    go_enter Tryz.func74, Tryz.ntmps74
    go_wp2_with (go_at_call 76; refine (HM.out m ⟨by omega, by omega⟩).mono ?_; rintro e w' ⟨rfl, rfl⟩)
    go_ret2
    exact ⟨rfl, rfl⟩
  have hn : Pm.dayNumber y m d = some (Pm.before y + d - 1 + Pm.cum y (m - 1).toNat) := if_neg (by omega)
  rw [hn]
  clear hn
  have hb0 := before_0
  go_enter Tryz.func74, Tryz.ntmps74
  go_wp2_with (go_at_call 76; refine (HM.out m ⟨by omega, by omega⟩).mono ?_; rintro e w' ⟨rfl, rfl⟩)
  go_loop [8, 9] (fun s i => ∃ k : Int, 1970 ≤ k ∧ k ≤ y ∧ i = .int .i64 k ∧ s = .int .i64 (d - 1 + Pm.before k)) (fun _ i => (y - intOf i).toNat)
  case atStart => exact ⟨1970, by omega, by omega, rfl, by rw [hb0]; go_num⟩
  case round =>
    obtain ⟨k, hk1, hk2, rfl, rfl⟩ := hrel
    have hbd := before_bd k hk1 (by omega)
    have hs := before_succ k
    by_cases hlt : k < y
    · have hl := HL.out k (by omega)
      have hbd2 := before_bd (k + 1) (by omega) (by omega)
      cases hy : Pm.leapY k with
      | true =>
        rw [hy] at hl
        have hl1 : Pm.leap1 k = 1 := by unfold Pm.leap1; rw [hy]; rfl
        have HLL := Lib.hid hl
        clear hl
        go_wp2_with (go_at_call 75; refine (HLL.out).mono ?_; rintro e w' ⟨rfl, rfl⟩)
        go_round
        case rel => exact ⟨k + 1, by omega, by omega, rfl, by go_num⟩
        case measure => simp [intOf]; omega
      | false =>
        rw [hy] at hl
        have hl1 : Pm.leap1 k = 0 := by unfold Pm.leap1; rw [hy]; rfl
        have HLL := Lib.hid hl
        clear hl
        go_wp2_with (go_at_call 75; refine (HLL.out).mono ?_; rintro e w' ⟨rfl, rfl⟩)
        go_round
        case rel => exact ⟨k + 1, by omega, by omega, rfl, by go_num⟩
        case measure => simp [intOf]; omega
    · have hky : k = y := by omega
      subst hky
      clear hs
      go_wp2
      go_loop [8, 10] (fun s i => ∃ j : Nat, (j : Int) ≤ m - 1 ∧ i = .int .i64 ((j : Int) + 1) ∧ s = .int .i64 (d - 1 + Pm.before k + Pm.cum k j)) (fun _ i => (m - intOf i).toNat)
      case atStart => exact ⟨0, by omega, by go_num, by simp [Pm.cum]⟩
      case round =>
        obtain ⟨j, hj, rfl, rfl⟩ := hrel
        obtain ⟨r1, r2⟩ := cum_bd k j
        obtain ⟨r3, r4⟩ := daysOf_bd k ((j : Int) + 1)
        have hcs : Pm.cum k (j + 1) = Pm.cum k j + Pm.daysOf k ((j : Int) + 1) := rfl
        by_cases hjm : (j : Int) + 1 < m
        · have HCS := Lib.hid hcs
          clear hcs
          go_wp2_with (go_at_call 76; refine (HM.out _ ⟨by omega, by omega⟩).mono ?_; rintro e w' ⟨rfl, rfl⟩)
          go_round
          case rel => exact ⟨j + 1, by omega, by go_num, by rw [HCS.out]; go_num⟩
          case measure => simp [intOf]; omega
        · clear hcs
          have hjj : (m - 1).toNat = j := by omega
          go_wp2
          go_ret2
          refine ⟨?_, rfl⟩
          show Ending.returned (.tuple #[.int .i64 ((d - 1 + Pm.before k + Pm.cum k j) * 86400000), .bool true]) = Ending.returned (.tuple #[.int .i64 ((Pm.before k + d - 1 + Pm.cum k j) * 86400000), .bool true])
          rw [show d - 1 + Pm.before k + Pm.cum k j = Pm.before k + d - 1 + Pm.cum k j by omega]
end Go.Proofs.YtbhhaehdoiaihaaGreatDoor
