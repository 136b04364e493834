/- The walks of text's and date's functions on bytes and numbers. -/
import Derived.Test.YtbhhaehdoiaihaaGreatDoorRows
import Derived.Test.YtbhhaehdoiaihaaGreatDoorPure
import Derived.WalkKit
import Derived.WalkSpells
import Derived.WalkLawsBesides
import Derived.BigQuiet
import Derived.Deep.QuietTactic
import Derived.Lib.Walk
import Derived.Lib.Hide
import Derived.Lib.LaidTab
import Derived.WalkSmall
import Derived.Lib.Itoa
import Derived.IntWalk
namespace Go.Proofs.YtbhhaehdoiaihaaGreatDoor
open Go.RowKit

def daysV : Array Value := ((List.range 7).map fun i => Value.string ⟨(Pm.dayName i).toArray⟩).toArray
def monthsV : Array Value := ((List.range 12).map fun i => Value.string ⟨(Pm.monthName i).toArray⟩).toArray
def mdaysV : Array Value := ((List.range 12).map fun i => Value.int .i64 (Pm.mdays i)).toArray

/-- The package variables that are read, as their initialisers lay them. -/
structure Tab (w : World) : Prop where
  months : ∃ t f, w.heap[0]? = some (.cells monthsV t f)
  days : ∃ t f, w.heap[1]? = some (.cells daysV t f)
  mdays : ∃ t f, w.heap[2]? = some (.cells mdaysV t f)
  pow : Lib.TabIs Tryz.prog w "internal/strconv.uint64pow10" .u64 Lib.pow10Tab
  most : ∃ m, w.cell? ⟨3, 0, none⟩ = some (.int .i64 m)

theorem Tab.month {w : World} (h : Tab w) (i : Nat) (hi : i < 12) : w.cell? ⟨0, i, none⟩ = some (.string ⟨(Pm.monthName i).toArray⟩) := by
  obtain ⟨t, f, hb⟩ := h.months
  rw [cell_of_row w _ i monthsV t f hb]
  simp [monthsV, hi]
theorem Tab.day {w : World} (h : Tab w) (i : Nat) (hi : i < 7) : w.cell? ⟨1, i, none⟩ = some (.string ⟨(Pm.dayName i).toArray⟩) := by
  obtain ⟨t, f, hb⟩ := h.days
  rw [cell_of_row w _ i daysV t f hb]
  simp [daysV, hi]
theorem Tab.mds {w : World} (h : Tab w) (i : Nat) (hi : i < 12) : w.cell? ⟨2, i, none⟩ = some (.int .i64 (Pm.mdays i)) := by
  obtain ⟨t, f, hb⟩ := h.mdays
  rw [cell_of_row w _ i mdaysV t f hb]
  simp [mdaysV, hi]
theorem lt_of_heap {w : World} {k : Nat} {o : Obj} (h : w.heap[k]? = some o) : k < w.heap.size := (Array.getElem?_eq_some_iff.1 h).1
theorem gPow : Tryz.prog.globalNamed "internal/strconv.uint64pow10" = some 6 := by kernel_rfl
theorem Tab.below {w w' : World} (h : Tab w) (hb : Below w.heap.size w w') : Tab w' := by
  obtain ⟨⟨t1, f1, h1⟩, ⟨t2, f2, h2⟩, ⟨t3, f3, h3⟩, h4, ⟨m, h5⟩⟩ := h
  refine ⟨⟨t1, f1, (hb.block _ (lt_of_heap h1)).trans h1⟩, ⟨t2, f2, (hb.block _ (lt_of_heap h2)).trans h2⟩, ⟨t3, f3, (hb.block _ (lt_of_heap h3)).trans h3⟩, ?_, ⟨m, (hb.cell (World.block_lt_of_cell? w _ h5)).trans h5⟩⟩
  have hlt : 6 < w.heap.size := by
    have := Lib.TabIs.cell h4 gPow 0 (by decide)
    exact World.block_lt_of_cell? w _ this
  unfold Lib.TabIs at h4 ⊢
  exact var?_below hb gPow hlt h4
theorem Tab.drewN {w : World} (h : Tab w) (n : Nat) : Tab (w.drewN n) := ⟨h.months, h.days, h.mdays, h.pow, h.most⟩

theorem mdays_bd (i : Nat) : 28 ≤ Pm.mdays i ∧ Pm.mdays i ≤ 31 := by
  unfold Pm.mdays; split <;> omega
theorem leap1_bd (y : Int) : 0 ≤ Pm.leap1 y ∧ Pm.leap1 y ≤ 1 := by
  unfold Pm.leap1; split <;> omega
theorem daysOf_bd (y m : Int) : 28 ≤ Pm.daysOf y m ∧ Pm.daysOf y m ≤ 32 := by
  have h1 := mdays_bd (m - 1).toNat
  have h2 := leap1_bd y
  unfold Pm.daysOf; split <;> omega
theorem cum_bd (y : Int) (k : Nat) : 0 ≤ Pm.cum y k ∧ Pm.cum y k ≤ 32 * k := by
  induction k with
  | zero => simp [Pm.cum]
  | succ k ih => have := daysOf_bd y ((k : Int) + 1); unfold Pm.cum; omega

theorem lower_any (c : Int) (h0 : 0 ≤ c) (h1 : c ≤ 255) (w : World) :
    Calls Tryz.prog 112 #[.int .u8 c] w fun e w' => e = .returned (.int .u8 (Pm.lowerI c)) ∧ w = w' := by
  by_cases ha : 65 ≤ c
  · by_cases hb : c ≤ 90
    · have e : Pm.lowerI c = c + 32 := if_pos ⟨ha, hb⟩
      rw [e]
      go_enter Tryz.func112, Tryz.ntmps112
      go_wp2
      go_ret
      exact ⟨rfl, rfl⟩
    · have e : Pm.lowerI c = c := if_neg (by omega)
      rw [e]
      go_enter Tryz.func112, Tryz.ntmps112
      go_wp2
      go_ret
      exact ⟨rfl, rfl⟩
  · have e : Pm.lowerI c = c := if_neg (by omega)
    rw [e]
    go_enter Tryz.func112, Tryz.ntmps112
    go_wp2
    go_ret
    exact ⟨rfl, rfl⟩

theorem white_any (c : Int) (w : World) :
    Calls Tryz.prog 111 #[.int .u8 c] w fun e w' => e = .returned (.bool (Pm.whiteI c)) ∧ w = w' := by
  unfold Pm.whiteI
  go_enter Tryz.func111, Tryz.ntmps111
  go_wp2
  all_goals go_ret
  all_goals exact ⟨by simp [*], rfl⟩

theorem isTime_any (t : Int) (w : World) :
    Calls Tryz.prog 38 #[.int .i64 t] w fun e w' => e = .returned (.bool (Pm.isTime t)) ∧ w = w' := by
  unfold Pm.isTime Pm.maxTime
  go_enter Tryz.func38, Tryz.ntmps38
  go_wp2
  all_goals go_ret
  all_goals exact ⟨by simp [*]; try omega, rfl⟩

theorem leaps_any (y : Int) (h0 : 0 ≤ y) (h1 : y ≤ 10000) (w : World) :
    Calls Tryz.prog 82 #[.int .i64 y] w fun e w' => e = .returned (.int .i64 (Pm.leaps y)) ∧ w = w' := by
  unfold Pm.leaps
  go_enter Tryz.func82, Tryz.ntmps82
  go_wp2
  go_ret
  exact ⟨rfl, rfl⟩

theorem before_any (y : Int) (h0 : 1970 ≤ y) (h1 : y ≤ 10000) (w : World) :
    Calls Tryz.prog 57 #[.int .i64 y] w fun e w' => e = .returned (.int .i64 (Pm.before y)) ∧ w = w' := by
  unfold Pm.before Pm.leaps
  go_enter Tryz.func57, Tryz.ntmps57
  go_wp2
  go_ret
  exact ⟨rfl, rfl⟩

theorem daysOf_any (y m : Int) (h0 : 1970 ≤ y) (h1 : y ≤ 10000) (h2 : 1 ≤ m) (h3 : m ≤ 12) (w : World) (ht : Tab w) :
    Calls Tryz.prog 58 #[.int .i64 y, .int .i64 m] w fun e w' => e = .returned (.int .i64 (Pm.daysOf y m)) ∧ w = w' := by
  have hc := ht.mds (m.toNat - 1) (by omega)
  have hb := mdays_bd (m.toNat - 1)
  unfold Pm.daysOf Pm.leap1 Pm.leapY
  rw [show (m - 1).toNat = m.toNat - 1 by omega]
  obtain ⟨hb1, hb2⟩ := hb
  clear ht
  generalize Pm.mdays (m.toNat - 1) = x at *
  by_cases em : m = 2
  · subst em
    have hc' : w.cell? ⟨2, 1, none⟩ = some (.int .i64 x) := hc
    clear hc
    by_cases e4 : y % 4 = 0
    · by_cases e100 : y % 100 = 0
      · by_cases e400 : y % 400 = 0
        · go_enter Tryz.func58, Tryz.ntmps58
          go_wp2
          go_ret
          exact ⟨by simp [*], rfl⟩
        · go_enter Tryz.func58, Tryz.ntmps58
          go_wp2
          go_ret
          exact ⟨by simp [*], rfl⟩
      · go_enter Tryz.func58, Tryz.ntmps58
        go_wp2
        go_ret
        exact ⟨by simp [*], rfl⟩
    · go_enter Tryz.func58, Tryz.ntmps58
      go_wp2
      go_ret
      exact ⟨by simp [*], rfl⟩
  · go_enter Tryz.func58, Tryz.ntmps58
    go_wp2
    go_ret
    exact ⟨by simp [*], rfl⟩

theorem tmp_int {k : IntKind} {a b : Int} (h : a = b) : Ending.returned (.int k a) = .returned (.int k b) := by rw [h]
theorem pair_int {k : IntKind} {a b : Int} {c : Bool} (h : a = b) : Ending.returned (.tuple #[.int k a, .bool c]) = .returned (.tuple #[.int k b, .bool c]) := by rw [h]

theorem before_bd (y : Int) (h0 : 1970 ≤ y) (h1 : y ≤ 10000) : 0 ≤ Pm.before y ∧ Pm.before y ≤ 2932897 := by
  unfold Pm.before Pm.leaps; omega

theorem dayNumber_no (y m d : Int) (h : y < 1970 ∨ 9999 < y ∨ m < 1 ∨ 12 < m ∨ d < 1 ∨ Pm.daysOf y m < d) (w : World) (ht : Tab w) :
    Calls Tryz.prog 94 #[.int .i64 y, .int .i64 m, .int .i64 d] w fun e w' => e = .returned (.tuple #[.int .i64 0, .bool false]) ∧ w = w' := by
  by_cases c1 : y < 1970
  · clear ht h; go_enter Tryz.func94, Tryz.ntmps94
    go_wp2; go_ret2; exact ⟨rfl, rfl⟩
  by_cases c2 : 9999 < y
  · clear ht h; go_enter Tryz.func94, Tryz.ntmps94
    go_wp2; go_ret2; exact ⟨rfl, rfl⟩
  by_cases c3 : m < 1
  · clear ht h; go_enter Tryz.func94, Tryz.ntmps94
    go_wp2; go_ret2; exact ⟨rfl, rfl⟩
  by_cases c4 : 12 < m
  · clear ht h; go_enter Tryz.func94, Tryz.ntmps94
    go_wp2; go_ret2; exact ⟨rfl, rfl⟩
  by_cases c5 : d < 1
  · clear ht h; go_enter Tryz.func94, Tryz.ntmps94
    go_wp2; go_ret2; exact ⟨rfl, rfl⟩
  have c6 : Pm.daysOf y m < d := by omega
  have hk := daysOf_any y m (by omega) (by omega) (by omega) (by omega) w ht
  have HK := Lib.hid hk
  clear hk h ht
  generalize Pm.daysOf y m = x at *
  go_enter Tryz.func94, Tryz.ntmps94
  go_wp2_with (go_at_call 58; refine (HK.out).mono ?_; rintro e w' ⟨rfl, rfl⟩)
  go_ret2
  exact ⟨rfl, rfl⟩

set_option maxHeartbeats 800000 in
theorem dayNumber_yes (y m d : Int) (c1 : 1970 ≤ y) (c2 : y ≤ 9999) (c3 : 1 ≤ m) (c4 : m ≤ 12) (c5 : 1 ≤ d) (c6 : d ≤ Pm.daysOf y m) (w : World) (ht : Tab w) :
    Calls Tryz.prog 94 #[.int .i64 y, .int .i64 m, .int .i64 d] w fun e w' => e = .returned (.tuple #[.int .i64 (Pm.before y + d - 1 + Pm.cum y (m - 1).toNat), .bool true]) ∧ w = w' := by
  have hb := before_bd y c1 (by omega)
  obtain ⟨hb1, hb2⟩ := hb
  have hd := daysOf_bd y m
  obtain ⟨hd1, hd2⟩ := hd
  have hbef := Lib.hid (before_any y c1 (by omega) w)
  have hds : Hid (∀ i : Int, 1 ≤ i → i ≤ 12 → Calls Tryz.prog 58 #[.int .i64 y, .int .i64 i] w fun e w' => e = .returned (.int .i64 (Pm.daysOf y i)) ∧ w = w') :=
    fun i h1 h2 => daysOf_any y i c1 (by omega) h1 h2 w ht
  clear ht
  go_enter Tryz.func94, Tryz.ntmps94
  go_wp2_with (first
    | (go_at_call 58; refine (hds.out _ (by omega) (by omega)).mono ?_; rintro e w' ⟨rfl, rfl⟩)
    | (go_at_call 57; refine (hbef.out).mono ?_; rintro e w' ⟨rfl, rfl⟩))
  go_loop [8, 9] (fun n i => ∃ k : Nat, (k : Int) + 1 ≤ m ∧ i = .int .i64 ((k : Int) + 1) ∧ n = .int .i64 (Pm.before y + d - 1 + Pm.cum y k)) (fun _ i => (12 - intOf i).toNat)
  case atStart => exact ⟨0, by omega, rfl, by simp [Pm.cum]⟩
  case round =>
    obtain ⟨k, hk, rfl, rfl⟩ := hrel
    obtain ⟨q1, q2⟩ := cum_bd y k
    have q3 := daysOf_bd y ((k : Int) + 1)
    obtain ⟨q3, q4⟩ := q3
    by_cases hlt : (k : Int) + 1 < m
    · go_wp2_with (go_at_call 58; refine (hds.out _ (by omega) (by omega)).mono ?_; rintro e w' ⟨rfl, rfl⟩)
      go_round
      case rel => exact ⟨k + 1, by omega, by go_num, by rw [Pm.cum]; congr 1; omega⟩
      case measure => simp [intOf]; omega
    · go_wp2
      go_ret2
      exact ⟨pair_int (by rw [show m.toNat - 1 = k by omega]), rfl⟩

theorem dayNumber_any (y m d : Int) (w : World) (ht : Tab w) :
    Calls Tryz.prog 94 #[.int .i64 y, .int .i64 m, .int .i64 d] w fun e w' =>
      e = .returned (.tuple #[.int .i64 ((Pm.dayNumber y m d).getD 0), .bool (Pm.dayNumber y m d).isSome]) ∧ w = w' := by
  unfold Pm.dayNumber
  split
  · next h => exact (dayNumber_no y m d h w ht).mono fun e w' ⟨a, b⟩ => ⟨a, b⟩
  · next h => exact (dayNumber_yes y m d (by omega) (by omega) (by omega) (by omega) (by omega) (by omega) w ht).mono fun e w' ⟨a, b⟩ => ⟨a, b⟩

end Go.Proofs.YtbhhaehdoiaihaaGreatDoor
