/- The walks of text's and date's functions on strings. -/
import Derived.Test.YtbhhaehdoiaihaaGreatDoorWb
namespace Go.Proofs.YtbhhaehdoiaihaaGreatDoor
open Go.RowKit

theorem lower_byte (c : UInt8) (w : World) :
    Calls Tryz.prog 112 #[.int .u8 c.toNat] w fun e w' => e = .returned (.int .u8 (Pm.lowB c).toNat) ∧ w = w' := by
  have h := lower_any c.toNat (by omega) (by have := c.toNat_lt; omega) w
  rw [← Pm.lowB_toNat] at h
  exact h

theorem same_len (a b : Pm.Bs) (h : a.length ≠ b.length) : Pm.same a b = false := by
  unfold Pm.same
  rw [beq_eq_false_iff_ne]
  intro e
  exact h (by simpa using congrArg List.length e)
theorem same_at (a b : Pm.Bs) (k : Nat) (ha : k < a.length) (hb : k < b.length) (h : Pm.lowB a[k] ≠ Pm.lowB b[k]) : Pm.same a b = false := by
  unfold Pm.same
  rw [beq_eq_false_iff_ne]
  intro e
  have := congrArg (·[k]?) e
  simp [ha, hb] at this
  exact h this
theorem take_map_succ (a b : Pm.Bs) (k : Nat) (ha : k < a.length) (hb : k < b.length) (h : Pm.lowB a[k] = Pm.lowB b[k]) (hr : (a.take k).map Pm.lowB = (b.take k).map Pm.lowB) :
    (a.take (k + 1)).map Pm.lowB = (b.take (k + 1)).map Pm.lowB := by
  rw [List.take_succ_eq_append_getElem ha, List.take_succ_eq_append_getElem hb, List.map_append, List.map_append, hr]
  simp [h]

set_option maxHeartbeats 800000 in
theorem same_any (a b : ByteArray) (ha : a.size ≤ 4294967280) (_hb : b.size ≤ 4294967280) (w : World) :
    Calls Tryz.prog 92 #[.string a, .string b] w fun e w' => e = .returned (.bool (Pm.same a.data.toList b.data.toList)) ∧ ∃ n, w' = w.drewN n := by
  by_cases hl : a.size = b.size
  case neg =>
    have hs := same_len a.data.toList b.data.toList (by rw [← Lib.size_eq, ← Lib.size_eq]; exact hl)
    rw [hs]
    clear hs
    have hl' : ((a.size : Int) != (b.size : Int)) = true := by rw [bne_iff_ne]; omega
    have hl2 : (a.size != b.size) = true := by rw [bne_iff_ne]; omega
    clear hl
    go_enter Tryz.func92, Tryz.ntmps92
    go_wp2
    go_ret
    exact ⟨rfl, 0, rfl⟩
  case pos =>
    have HL := Lib.hid hl
    have hl' : ((a.size : Int) != (b.size : Int)) = false := by rw [bne_eq_false_iff_eq]; omega
    have hl2 : (a.size != b.size) = false := by rw [bne_eq_false_iff_eq]; omega
    clear hl
    go_enter Tryz.func92, Tryz.ntmps92
    go_wp2
    go_loopw [13] (fun i wr => ∃ k n : Nat, k ≤ a.size ∧ i = .int .i64 k ∧ wr = w.drewN n ∧ (a.data.toList.take k).map Pm.lowB = (b.data.toList.take k).map Pm.lowB) (fun i _ => a.size - (intOf i).toNat)
    case atStart => exact ⟨0, 0, by omega, rfl, rfl, by simp⟩
    case round =>
      obtain ⟨k, n, hk, rfl, rfl, hr⟩ := hrel
      have HR := Lib.hid hr
      clear hr
      by_cases hlt : k < a.size
      · have hltb : k < b.size := by rw [← HL.out]; exact hlt
        by_cases he : Pm.lowB a[k] = Pm.lowB b[k]
        · have HE := Lib.hid he
          have he' : (((Pm.lowB a[k]).toNat : Int) != ((Pm.lowB b[k]).toNat : Int)) = false := by rw [bne_eq_false_iff_eq, he]
          have he2 : ((Pm.lowB a[k]).toNat != (Pm.lowB b[k]).toNat) = false := by rw [bne_eq_false_iff_eq, he]
          clear he
          go_wp2_with fail
          go_quiet ((go_at_call 112; exact quiet_left2 (lower_byte _ _)))
          go_wp2
          go_roundw
          case rel => exact ⟨k + 1, _, by omega, by go_num, rfl, take_map_succ _ _ k (by rw [← Lib.size_eq]; exact hlt) (by rw [← Lib.size_eq]; exact hltb) HE.out HR.out⟩
          case measure => simp [intOf]; omega
        · have he' : (((Pm.lowB a[k]).toNat : Int) != ((Pm.lowB b[k]).toNat : Int)) = true := by
            rw [bne_iff_ne]; intro e; exact he (UInt8.toNat_inj.1 (by omega))
          have he2 : ((Pm.lowB a[k]).toNat != (Pm.lowB b[k]).toNat) = true := by
            rw [bne_iff_ne]; intro e; exact he (UInt8.toNat_inj.1 (by omega))
          go_wp2_with fail
          go_quiet ((go_at_call 112; exact quiet_left2 (lower_byte _ _)))
          go_wp2
          go_ret
          exact ⟨ret_bool (same_at _ _ k (by rw [← Lib.size_eq]; exact hlt) (by rw [← Lib.size_eq]; exact hltb) he).symm, _, World.drewN_drewN _ _ _⟩
      · go_wp2
        go_ret
        refine ⟨ret_bool ?_, _, rfl⟩
        have hka : k = a.size := by omega
        have hr := HR.out
        rw [hka, List.take_of_length_le (by rw [← Lib.size_eq]; exact Nat.le_refl _), List.take_of_length_le (by rw [← Lib.size_eq, HL.out]; exact Nat.le_refl _)] at hr
        unfold Pm.same
        rw [hr]; simp

def dig (c : UInt8) : Bool := 48 ≤ c && c ≤ 57
def val (l : Pm.Bs) : Int := l.foldl (fun n c => 10 * n + ((c.toNat : Int) - 48)) 0
theorem dig_iff (c : UInt8) : dig c = true ↔ 48 ≤ (c.toNat : Int) ∧ (c.toNat : Int) ≤ 57 := by
  unfold dig
  simp only [Bool.and_eq_true, decide_eq_true_eq, UInt8.le_iff_toNat_le]
  have e1 : (48 : UInt8).toNat = 48 := rfl
  have e2 : (57 : UInt8).toNat = 57 := rfl
  rw [e1, e2]; omega
theorem val_snoc (l : Pm.Bs) (c : UInt8) : val (l ++ [c]) = 10 * val l + ((c.toNat : Int) - 48) := by simp [val]
theorem val_bd (n : Nat) : ∀ l : Pm.Bs, l.length = n → l.all dig = true → 0 ≤ val l ∧ val l < 10 ^ n := by
  induction n with
  | zero => intro l h _; have : l = [] := List.eq_nil_of_length_eq_zero h; subst this; simp [val]
  | succ n ih =>
    intro l h ha
    have hne : l ≠ [] := by intro e; simp [e] at h
    rw [← List.dropLast_concat_getLast hne] at ha ⊢
    rw [List.all_append] at ha
    simp only [Bool.and_eq_true, List.all_cons, List.all_nil, and_true] at ha
    obtain ⟨h1, h2⟩ := ih l.dropLast (by simp [h]) ha.1
    obtain ⟨h3, h4⟩ := (dig_iff _).1 ha.2
    rw [val_snoc, Int.pow_succ]
    omega
theorem val_le (l : Pm.Bs) (h : l.length ≤ 14) (ha : l.all dig = true) : 0 ≤ val l ∧ val l ≤ 99999999999999 := by
  obtain ⟨h1, h2⟩ := val_bd l.length l rfl ha
  have h3 : (10 : Int) ^ l.length ≤ 10 ^ 14 := by
    have : (10 : Nat) ^ l.length ≤ 10 ^ 14 := Nat.pow_le_pow_right (by omega) h
    exact_mod_cast this
  omega
theorem number_none (l : Pm.Bs) (h : l.length < 1 ∨ 15 < l.length) : Pm.number l = none := by
  unfold Pm.number; rw [if_pos h]
theorem number_bad (l : Pm.Bs) (k : Nat) (hk : k < l.length) (h : dig l[k] = false) : Pm.number l = none := by
  unfold Pm.number
  split
  · rfl
  · rw [if_neg]
    intro ha
    have := List.all_eq_true.1 ha l[k] (List.getElem_mem hk)
    unfold dig at h
    rw [h] at this
    cases this
theorem number_good (l : Pm.Bs) (h1 : 1 ≤ l.length) (h2 : l.length ≤ 15) (h : l.all dig = true) : Pm.number l = some (val l) := by
  unfold Pm.number
  rw [if_neg (by omega)]
  exact if_pos h

set_option maxHeartbeats 800000 in
theorem number_any (s : ByteArray) (hs : s.size ≤ 4294967280) (w : World) :
    Calls Tryz.prog 93 #[.string s] w fun e w' => e = .returned (.tuple #[.int .i64 ((Pm.number s.data.toList).getD 0), .bool (Pm.number s.data.toList).isSome]) ∧ w = w' := by
  by_cases h1 : s.size < 1
  · rw [number_none _ (by rw [← Lib.size_eq]; omega)]
    have h1' : (s.size : Int) < 1 := by omega
    go_enter Tryz.func93, Tryz.ntmps93
    go_wp2
    go_ret2
    exact ⟨rfl, rfl⟩
  by_cases h2 : 15 < s.size
  · rw [number_none _ (by rw [← Lib.size_eq]; omega)]
    have h2' : 15 < (s.size : Int) := by omega
    have h1' : ¬ (s.size : Int) < 1 := by omega
    go_enter Tryz.func93, Tryz.ntmps93
    go_wp2
    go_ret2
    exact ⟨rfl, rfl⟩
  have h1' : ¬ (s.size : Int) < 1 := by omega
  have h2' : ¬ 15 < (s.size : Int) := by omega
  have hsz := Lib.hid (Lib.size_eq s)
  go_enter Tryz.func93, Tryz.ntmps93
  go_wp2
  go_loop [4, 16] (fun n i => ∃ k : Nat, k ≤ s.size ∧ i = .int .i64 k ∧ n = .int .i64 (val (s.data.toList.take k)) ∧ (s.data.toList.take k).all dig = true) (fun _ i => s.size - (intOf i).toNat)
  case atStart => exact ⟨0, by omega, rfl, by simp [val], by simp⟩
  case round =>
    obtain ⟨k, hk, rfl, rfl, hd⟩ := hrel
    have HD := Lib.hid hd
    clear hd
    by_cases hlt : k < s.size
    · have hkl : k < s.data.toList.length := by rw [← hsz.out]; exact hlt
      obtain ⟨q1, q2⟩ := val_le (s.data.toList.take k) (by rw [List.length_take]; omega) HD.out
      by_cases hc : 48 ≤ (s[k].toNat : Int) ∧ (s[k].toNat : Int) ≤ 57
      · obtain ⟨c1, c2⟩ := hc
        have hsn : Hid (val (s.data.toList.take (k + 1)) = 10 * val (s.data.toList.take k) + ((s[k].toNat : Int) - 48) ∧ (s.data.toList.take (k + 1)).all dig = true) := by
          rw [List.take_succ_eq_append_getElem hkl]
          refine ⟨val_snoc _ _, ?_⟩
          rw [List.all_append, HD.out]
          simp
          exact (dig_iff _).2 ⟨c1, c2⟩
        have c1' : 48 ≤ s[k].toNat := by omega
        have c2' : s[k].toNat ≤ 57 := by omega
        go_wp2
        go_round
        case rel => exact ⟨k + 1, by omega, by go_num, by rw [hsn.out.1], hsn.out.2⟩
        case measure => simp [intOf]; omega
      · have hbad : Hid (Pm.number s.data.toList = none) := number_bad _ k hkl (by
          rw [Bool.eq_false_iff]; intro e; exact hc ((dig_iff _).1 e))
        by_cases c1 : (s[k].toNat : Int) < 48
        · have c1' : s[k].toNat < 48 := by omega
          go_wp2
          go_ret2
          exact ⟨by rw [hbad.out]; rfl, rfl⟩
        · have c2 : 57 < (s[k].toNat : Int) := by omega
          have c1' : ¬ s[k].toNat < 48 := by omega
          have c2' : 57 < s[k].toNat := by omega
          go_wp2
          go_ret2
          exact ⟨by rw [hbad.out]; rfl, rfl⟩
    · go_wp2
      go_ret2
      have hka : k = s.size := by omega
      have hd := HD.out
      rw [hka, List.take_of_length_le (by rw [hsz.out]; exact Nat.le_refl _)] at hd
      have hg := number_good s.data.toList (by rw [← hsz.out]; omega) (by rw [← hsz.out]; omega) hd
      refine ⟨?_, rfl⟩
      rw [hg, hka, List.take_of_length_le (by rw [hsz.out]; exact Nat.le_refl _)]
      rfl

theorem digits_any (s : ByteArray) (lo hi : Int) (hs : s.size ≤ 4294967280) (w : World) :
    Calls Tryz.prog 67 #[.string s, .int .i64 lo, .int .i64 hi] w fun e w' => e = .returned (.tuple #[.int .i64 ((Pm.digits s.data.toList lo hi).getD 0), .bool (Pm.digits s.data.toList lo hi).isSome]) ∧ w = w' := by
  have hnum := Lib.hid (number_any s hs w)
  have hsz := Lib.hid (Lib.size_eq s)
  by_cases h1 : (s.size : Int) < lo
  · have e : Pm.digits s.data.toList lo hi = none := by unfold Pm.digits; rw [if_pos (.inl (by rw [← hsz.out]; exact h1))]
    rw [e]
    clear e
    go_enter Tryz.func67, Tryz.ntmps67
    go_wp2
    go_ret2
    exact ⟨rfl, rfl⟩
  by_cases h2 : hi < (s.size : Int)
  · have e : Pm.digits s.data.toList lo hi = none := by unfold Pm.digits; rw [if_pos (.inr (by rw [← hsz.out]; exact h2))]
    rw [e]
    clear e
    go_enter Tryz.func67, Tryz.ntmps67
    go_wp2
    go_ret2
    exact ⟨rfl, rfl⟩
  have e : Pm.digits s.data.toList lo hi = Pm.number s.data.toList := by
    unfold Pm.digits; rw [if_neg]; rw [← hsz.out]; omega
  rw [e]
  clear e
  go_enter Tryz.func67, Tryz.ntmps67
  go_wp2_with (go_at_call 93; refine (hnum.out).mono ?_; rintro e w' ⟨rfl, rfl⟩)
  go_ret2
  exact ⟨rfl, rfl⟩

/-! ### names -/
theorem idx_day0 (w : World) : (Instr.index 75 (.agg daysV) (.int .i64 ((0 : Nat) : Int))).run Tryz.prog w = .ok (.string ⟨(Pm.dayName 0).toArray⟩) w := by kernel_rfl
theorem idx_day1 (w : World) : (Instr.index 75 (.agg daysV) (.int .i64 ((1 : Nat) : Int))).run Tryz.prog w = .ok (.string ⟨(Pm.dayName 1).toArray⟩) w := by kernel_rfl
theorem idx_day2 (w : World) : (Instr.index 75 (.agg daysV) (.int .i64 ((2 : Nat) : Int))).run Tryz.prog w = .ok (.string ⟨(Pm.dayName 2).toArray⟩) w := by kernel_rfl
theorem idx_day3 (w : World) : (Instr.index 75 (.agg daysV) (.int .i64 ((3 : Nat) : Int))).run Tryz.prog w = .ok (.string ⟨(Pm.dayName 3).toArray⟩) w := by kernel_rfl
theorem idx_day4 (w : World) : (Instr.index 75 (.agg daysV) (.int .i64 ((4 : Nat) : Int))).run Tryz.prog w = .ok (.string ⟨(Pm.dayName 4).toArray⟩) w := by kernel_rfl
theorem idx_day5 (w : World) : (Instr.index 75 (.agg daysV) (.int .i64 ((5 : Nat) : Int))).run Tryz.prog w = .ok (.string ⟨(Pm.dayName 5).toArray⟩) w := by kernel_rfl
theorem idx_day6 (w : World) : (Instr.index 75 (.agg daysV) (.int .i64 ((6 : Nat) : Int))).run Tryz.prog w = .ok (.string ⟨(Pm.dayName 6).toArray⟩) w := by kernel_rfl
theorem idx_day (k : Nat) (hk : k < 7) (w : World) : (Instr.index 75 (.agg daysV) (.int .i64 (k : Int))).run Tryz.prog w = .ok (.string ⟨(Pm.dayName k).toArray⟩) w := by
  match k, hk with
  | 0, _ => exact idx_day0 w
  | 1, _ => exact idx_day1 w
  | 2, _ => exact idx_day2 w
  | 3, _ => exact idx_day3 w
  | 4, _ => exact idx_day4 w
  | 5, _ => exact idx_day5 w
  | 6, _ => exact idx_day6 w
theorem idx_month0 (w : World) : (Instr.index 64 (.agg monthsV) (.int .i64 ((0 : Nat) : Int))).run Tryz.prog w = .ok (.string ⟨(Pm.monthName 0).toArray⟩) w := by kernel_rfl
theorem idx_month1 (w : World) : (Instr.index 64 (.agg monthsV) (.int .i64 ((1 : Nat) : Int))).run Tryz.prog w = .ok (.string ⟨(Pm.monthName 1).toArray⟩) w := by kernel_rfl
theorem idx_month2 (w : World) : (Instr.index 64 (.agg monthsV) (.int .i64 ((2 : Nat) : Int))).run Tryz.prog w = .ok (.string ⟨(Pm.monthName 2).toArray⟩) w := by kernel_rfl
theorem idx_month3 (w : World) : (Instr.index 64 (.agg monthsV) (.int .i64 ((3 : Nat) : Int))).run Tryz.prog w = .ok (.string ⟨(Pm.monthName 3).toArray⟩) w := by kernel_rfl
theorem idx_month4 (w : World) : (Instr.index 64 (.agg monthsV) (.int .i64 ((4 : Nat) : Int))).run Tryz.prog w = .ok (.string ⟨(Pm.monthName 4).toArray⟩) w := by kernel_rfl
theorem idx_month5 (w : World) : (Instr.index 64 (.agg monthsV) (.int .i64 ((5 : Nat) : Int))).run Tryz.prog w = .ok (.string ⟨(Pm.monthName 5).toArray⟩) w := by kernel_rfl
theorem idx_month6 (w : World) : (Instr.index 64 (.agg monthsV) (.int .i64 ((6 : Nat) : Int))).run Tryz.prog w = .ok (.string ⟨(Pm.monthName 6).toArray⟩) w := by kernel_rfl
theorem idx_month7 (w : World) : (Instr.index 64 (.agg monthsV) (.int .i64 ((7 : Nat) : Int))).run Tryz.prog w = .ok (.string ⟨(Pm.monthName 7).toArray⟩) w := by kernel_rfl
theorem idx_month8 (w : World) : (Instr.index 64 (.agg monthsV) (.int .i64 ((8 : Nat) : Int))).run Tryz.prog w = .ok (.string ⟨(Pm.monthName 8).toArray⟩) w := by kernel_rfl
theorem idx_month9 (w : World) : (Instr.index 64 (.agg monthsV) (.int .i64 ((9 : Nat) : Int))).run Tryz.prog w = .ok (.string ⟨(Pm.monthName 9).toArray⟩) w := by kernel_rfl
theorem idx_month10 (w : World) : (Instr.index 64 (.agg monthsV) (.int .i64 ((10 : Nat) : Int))).run Tryz.prog w = .ok (.string ⟨(Pm.monthName 10).toArray⟩) w := by kernel_rfl
theorem idx_month11 (w : World) : (Instr.index 64 (.agg monthsV) (.int .i64 ((11 : Nat) : Int))).run Tryz.prog w = .ok (.string ⟨(Pm.monthName 11).toArray⟩) w := by kernel_rfl
theorem idx_month (k : Nat) (hk : k < 12) (w : World) : (Instr.index 64 (.agg monthsV) (.int .i64 (k : Int))).run Tryz.prog w = .ok (.string ⟨(Pm.monthName k).toArray⟩) w := by
  match k, hk with
  | 0, _ => exact idx_month0 w
  | 1, _ => exact idx_month1 w
  | 2, _ => exact idx_month2 w
  | 3, _ => exact idx_month3 w
  | 4, _ => exact idx_month4 w
  | 5, _ => exact idx_month5 w
  | 6, _ => exact idx_month6 w
  | 7, _ => exact idx_month7 w
  | 8, _ => exact idx_month8 w
  | 9, _ => exact idx_month9 w
  | 10, _ => exact idx_month10 w
  | 11, _ => exact idx_month11 w
theorem dayName_len (k : Nat) : (Pm.dayName k).length = 3 := by unfold Pm.dayName; split <;> rfl
theorem monthName_len (k : Nat) : (Pm.monthName k).length = 3 := by unfold Pm.monthName; split <;> rfl
theorem day_size (k : Nat) : (⟨(Pm.dayName k).toArray⟩ : ByteArray).size ≤ 4294967280 := by
  rw [Lib.size_eq]; simp [dayName_len]
theorem month_size (k : Nat) : (⟨(Pm.monthName k).toArray⟩ : ByteArray).size ≤ 4294967280 := by
  rw [Lib.size_eq]; simp [monthName_len]
theorem isDay_yes (s : Pm.Bs) (k : Nat) (hk : k < 7) (h : Pm.same (Pm.dayName k) s = true) : Pm.isDay s = true := by
  unfold Pm.isDay; rw [List.any_eq_true]; exact ⟨k, by simpa using hk, h⟩
theorem isDay_no (s : Pm.Bs) (h : ∀ j, j < 7 → Pm.same (Pm.dayName j) s = false) : Pm.isDay s = false := by
  unfold Pm.isDay; rw [List.any_eq_false]; intro j hj; simpa using h j (by simpa using hj)

set_option maxHeartbeats 800000 in
theorem isDay_any (s : ByteArray) (hs : s.size ≤ 4294967280) (w : World) (ht : Tab w) :
    Calls Tryz.prog 66 #[.string s] w fun e w' => e = .returned (.bool (Pm.isDay s.data.toList)) ∧ ∃ n, w' = w.drewN n := by
  obtain ⟨tt, fr, hg1⟩ := ht.days
  have HG := Lib.hid hg1
  clear ht hg1
  go_enter Tryz.func66, Tryz.ntmps66
  go_wp2_with (refine wpList_load_row rfl 75 _ rfl 1 rfl tt _ fr _ HG.out Tryz.underlying75 rfl (by kernel_rfl) ?_)
  go_loopw [6] (fun i wr => ∃ k n : Nat, k ≤ 7 ∧ i = .int .i64 k ∧ wr = w.drewN n ∧ ∀ j, j < k → Pm.same (Pm.dayName j) s.data.toList = false) (fun i _ => 7 - (intOf i).toNat)
  case atStart => exact ⟨0, 0, by omega, rfl, rfl, by intro j hj; omega⟩
  case round =>
    obtain ⟨k, n, hk, rfl, rfl, hr⟩ := hrel
    have HR := Lib.hid hr
    clear hr
    by_cases hlt : k < 7
    · have hlt' : (k : Int) < 7 := by omega
      have hix := idx_day k hlt
      have hsm := Lib.hid (same_any ⟨(Pm.dayName k).toArray⟩ s (day_size k) hs)
      by_cases he : Pm.same (Pm.dayName k) s.data.toList = true
      · have HE := Lib.hid he
        clear he
        go_wp2_with (go_at_call 92; refine (hsm.out _).mono ?_; rintro e w' ⟨rfl, n', rfl⟩; rw [List.toList_toArray, HE.out])
        go_ret
        exact ⟨ret_bool (isDay_yes _ k hlt HE.out).symm, _, rfl⟩
      · have he' : Pm.same (Pm.dayName k) s.data.toList = false := by simpa using he
        have HE := Lib.hid he'
        clear he'
        clear he
        go_wp2_with (go_at_call 92; refine (hsm.out _).mono ?_; rintro e w' ⟨rfl, n', rfl⟩; rw [List.toList_toArray, HE.out])
        go_roundw
        case rel => exact ⟨k + 1, _, by omega, by go_num, rfl, fun j hj => by
          by_cases e : j = k
          · rw [e]; exact HE.out
          · exact HR.out j (by omega)⟩
        case measure => simp [intOf]; omega
    · go_wp2
      go_ret
      exact ⟨ret_bool (isDay_no _ (fun j hj => HR.out j (by omega))).symm, _, rfl⟩

theorem monthFrom_hit (s : Pm.Bs) (f k : Nat) (h : Pm.same (Pm.monthName k) s = true) : Pm.monthFrom s (f + 1) k = (k : Int) + 1 := by
  unfold Pm.monthFrom; rw [if_pos h]
theorem monthFrom_miss (s : Pm.Bs) (f k : Nat) (h : Pm.same (Pm.monthName k) s = false) : Pm.monthFrom s (f + 1) k = Pm.monthFrom s f (k + 1) := by
  conv => lhs; unfold Pm.monthFrom
  rw [if_neg (by simp [h])]

set_option maxHeartbeats 800000 in
theorem monthOf_any (s : ByteArray) (hs : s.size ≤ 4294967280) (w : World) (ht : Tab w) :
    Calls Tryz.prog 95 #[.string s] w fun e w' => e = .returned (.int .i64 (Pm.monthOf s.data.toList)) ∧ ∃ n, w' = w.drewN n := by
  obtain ⟨tt, fr, hg1⟩ := ht.months
  have HG := Lib.hid hg1
  clear ht hg1
  go_enter Tryz.func95, Tryz.ntmps95
  go_wp2_with (refine wpList_load_row rfl 64 _ rfl 0 rfl tt _ fr _ HG.out Tryz.underlying64 rfl (by kernel_rfl) ?_)
  go_loopw [6] (fun i wr => ∃ k n : Nat, k ≤ 12 ∧ i = .int .i64 k ∧ wr = w.drewN n ∧ Pm.monthOf s.data.toList = Pm.monthFrom s.data.toList (12 - k) k) (fun i _ => 12 - (intOf i).toNat)
  case atStart => exact ⟨0, 0, by omega, rfl, rfl, rfl⟩
  case round =>
    obtain ⟨k, n, hk, rfl, rfl, hr⟩ := hrel
    have HR := Lib.hid hr
    clear hr
    by_cases hlt : k < 12
    · have hlt' : (k : Int) < 12 := by omega
      have hix := idx_month k hlt
      have hsm := Lib.hid (same_any ⟨(Pm.monthName k).toArray⟩ s (month_size k) hs)
      by_cases he : Pm.same (Pm.monthName k) s.data.toList = true
      · have HE := Lib.hid he
        clear he
        go_wp2_with (go_at_call 92; refine (hsm.out _).mono ?_; rintro e w' ⟨rfl, n', rfl⟩; rw [List.toList_toArray, HE.out])
        go_ret
        exact ⟨ret_int (by rw [HR.out, show 12 - k = (11 - k) + 1 by omega, monthFrom_hit _ _ _ HE.out]), _, rfl⟩
      · have he' : Pm.same (Pm.monthName k) s.data.toList = false := by simpa using he
        have HE := Lib.hid he'
        clear he'
        clear he
        go_wp2_with (go_at_call 92; refine (hsm.out _).mono ?_; rintro e w' ⟨rfl, n', rfl⟩; rw [List.toList_toArray, HE.out])
        go_roundw
        case rel => exact ⟨k + 1, _, by omega, by go_num, rfl, by rw [HR.out, show 12 - k = (12 - (k + 1)) + 1 by omega, monthFrom_miss _ _ _ HE.out]⟩
        case measure => simp [intOf]; omega
    · go_wp2
      go_ret
      exact ⟨ret_int (by rw [HR.out, show 12 - k = 0 by omega]; rfl), _, rfl⟩

set_option maxHeartbeats 800000 in
theorem dayAt_any (d m : ByteArray) (y : Int) (hd : d.size ≤ 4294967280) (hm : m.size ≤ 4294967280) (w : World) (ht : Tab w) :
    Calls Tryz.prog 68 #[.string d, .string m, .int .i64 y] w fun e w' =>
      e = .returned (.tuple #[.int .i64 ((Pm.dayAt d.data.toList m.data.toList y).getD 0), .bool (Pm.dayAt d.data.toList m.data.toList y).isSome]) ∧ ∃ n, w' = w.drewN n := by
  have hdg := Lib.hid (digits_any d 1 2 hd w)
  have hmo := Lib.hid (monthOf_any m hm w ht)
  have hdn : Hid (∀ (m d : Int) (n : Nat), Calls Tryz.prog 94 #[.int .i64 y, .int .i64 m, .int .i64 d] (w.drewN n) fun e w' =>
      e = .returned (.tuple #[.int .i64 ((Pm.dayNumber y m d).getD 0), .bool (Pm.dayNumber y m d).isSome]) ∧ w.drewN n = w') := fun m d n => dayNumber_any y m d _ (ht.drewN n)
  clear ht
  unfold Pm.dayAt
  cases hx : Pm.digits d.data.toList 1 2 with
  | none =>
    have HX := Lib.hid hx
    clear hx
    go_enter Tryz.func68, Tryz.ntmps68
    go_wp2_with (go_at_call 67; refine (hdg.out).mono ?_; rintro e w' ⟨rfl, rfl⟩; rw [HX.out])
    go_ret2
    exact ⟨rfl, 0, rfl⟩
  | some v =>
    have HX := Lib.hid hx
    clear hx
    go_enter Tryz.func68, Tryz.ntmps68
    go_wp2_with (first
      | (go_at_call 67; refine (hdg.out).mono ?_; rintro e w' ⟨rfl, rfl⟩; rw [HX.out])
      | (go_at_call 95; refine (hmo.out).mono ?_; rintro e w' ⟨rfl, n', rfl⟩)
      | (go_at_call 94; refine (hdn.out _ _ _).mono ?_; rintro e w' ⟨rfl, rfl⟩))
    go_ret2
    exact ⟨rfl, _, rfl⟩

theorem weekday_any (ms : Int) (h0 : 0 ≤ ms) (h1 : ms ≤ 70368744177664) (w : World) (ht : Tab w) :
    Calls Tryz.prog 40 #[.int .i64 ms] w fun e w' => e = .returned (.string ⟨(Pm.weekday ms).toArray⟩) ∧ w = w' := by
  have hc := ht.day ((ms / 86400000 + 3) % 7).toNat (by omega)
  unfold Pm.weekday Pm.dayMs
  clear ht
  go_enter Tryz.func40, Tryz.ntmps40
  go_wp2
  go_ret
  exact ⟨rfl, rfl⟩

end Go.Proofs.YtbhhaehdoiaihaaGreatDoor
