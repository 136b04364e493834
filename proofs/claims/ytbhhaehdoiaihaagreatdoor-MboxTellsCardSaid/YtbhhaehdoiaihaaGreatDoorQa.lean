/- Plain law: Unasctime gives back what Asctime was given. No program in sight. -/
import Derived.Test.YtbhhaehdoiaihaaGreatDoorPure
namespace Go.Proofs.YtbhhaehdoiaihaaGreatDoor.Pm

theorem find_step (f : Nat → Int) (n : Int) (N : Nat) (h0 : f 0 ≤ n) (hN : n < f N) : ∃ k, k < N ∧ f k ≤ n ∧ n < f (k + 1) := by
  induction N with
  | zero => omega
  | succ N ih =>
    by_cases h : n < f N
    · obtain ⟨k, a, b, c⟩ := ih h; exact ⟨k, by omega, b, c⟩
    · exact ⟨N, by omega, by omega, hN⟩
theorem leap1_eq' (y : Int) : leap1 y = leaps y - leaps (y - 1) := by
  unfold leap1 leapY leaps
  by_cases e4 : y % 4 = 0 <;> by_cases e100 : y % 100 = 0 <;> by_cases e400 : y % 400 = 0 <;> simp [e4, e100, e400] <;> omega
theorem before_next (y : Int) : before (y + 1) = before y + cum y 12 := by
  have h : cum y 12 = 365 + leap1 y := by simp [cum, daysOf, mdays]; omega
  rw [h, leap1_eq']; unfold before; rw [show y + 1 - 1 = y by omega]; omega
theorem civ_exists (n : Int) (h0 : 0 ≤ n) (h1 : n ≤ 814453) : ∃ y m d, Civ n y m d := by
  obtain ⟨k, hk, a, b⟩ := find_step (fun k => before (1970 + k)) n 2231 (by simpa [before, leaps] using h0) (by simp [before, leaps]; omega)
  have hb : before (1970 + ((k + 1 : Nat) : Int)) = before (1970 + k) + cum (1970 + k) 12 := by
    rw [show (1970 + ((k + 1 : Nat) : Int)) = 1970 + (k : Int) + 1 by omega, before_next]
  rw [hb] at b
  generalize hy : (1970 : Int) + k = y at *
  obtain ⟨j, hj, c, e⟩ := find_step (fun j => cum y j) (n - before y) 12 (by show cum y 0 ≤ _; simp [cum]; omega) (by omega)
  have hc : cum y (j + 1) = cum y j + daysOf y ((j : Int) + 1) := rfl
  refine ⟨y, (j : Int) + 1, n - before y - cum y j + 1, by omega, by omega, by omega, by omega, by omega, by omega, ?_⟩
  rw [show ((j : Int) + 1 - 1).toNat = j by omega]; omega

def p2 (n : Nat) : Bs := [UInt8.ofNat (48 + n / 10), UInt8.ofNat (48 + n % 10)]
def p4 (n : Nat) : Bs := [UInt8.ofNat (48 + n / 1000), UInt8.ofNat (48 + n / 100 % 10), UInt8.ofNat (48 + n / 10 % 10), UInt8.ofNat (48 + n % 10)]
def dig8 (c : UInt8) : Bool := 48 ≤ c && c ≤ 57
theorem itoa_nat (n : Nat) : Lib.itoa (n : Int) = Lib.decDigits n := by unfold Lib.itoa; rw [if_neg (by omega)]; simp
theorem dec4 (n : Nat) (h1 : 1000 ≤ n) (h2 : n < 10000) : Lib.decDigits n = p4 n := by
  have e : ∀ u, ¬ u < 10 → Lib.decDigits u = Lib.decDigits (u / 10) ++ [UInt8.ofNat (48 + u % 10)] := fun u h => by
    rw [Lib.decDigits, dif_neg h]
  rw [e n (by omega), e (n / 10) (by omega), Lib.decDigits_two (by omega) (by omega)]
  unfold p4
  rw [show n / 10 / 10 / 10 = n / 1000 by omega, show n / 10 / 10 % 10 = n / 100 % 10 by omega]
  rfl
theorem pad2 (n : Nat) (h : n < 100) : padded (n : Int) 2 48 = p2 n := by
  unfold padded
  rw [itoa_nat]
  by_cases h10 : n < 10
  · rw [Lib.decDigits_one h10]
    unfold p2
    rw [show n / 10 = 0 by omega, show n % 10 = n by omega]; rfl
  · rw [Lib.decDigits_two h10 h]; rfl
theorem padD (n : Nat) (h : n < 100) : padded (n : Int) 2 32 = (if n < 10 then [32, UInt8.ofNat (48 + n)] else p2 n) := by
  unfold padded
  rw [itoa_nat]
  by_cases h10 : n < 10
  · rw [Lib.decDigits_one h10, if_pos h10]; rfl
  · rw [Lib.decDigits_two h10 h, if_neg h10]; rfl
theorem pad4 (n : Nat) (h1 : 1000 ≤ n) (h2 : n < 10000) : padded (n : Int) 4 48 = p4 n := by
  unfold padded
  rw [itoa_nat, dec4 n h1 h2]; rfl

set_option maxRecDepth 100000 in
theorem dig2 : ∀ n, n < 100 → (p2 n).all dig8 = true ∧ digits (p2 n) 2 2 = some (n : Int) ∧ digits (p2 n) 1 2 = some (n : Int) := by decide +kernel
theorem dig1 : ∀ n, n < 10 → dig8 (UInt8.ofNat (48 + n)) = true ∧ digits [UInt8.ofNat (48 + n)] 1 2 = some (n : Int) := by decide +kernel
set_option maxRecDepth 100000 in
theorem dig4 : ∀ k, k < 2231 → (p4 (1970 + k)).all dig8 = true ∧ digits (p4 (1970 + k)) 4 4 = some ((1970 + k : Nat) : Int) := by decide +kernel
theorem month_back : ∀ i, i < 12 → monthOf (monthName i) = (i : Int) + 1 := by decide +kernel
theorem day_back (i : Nat) : isDay (dayName i) = true := by
  unfold isDay
  rw [List.any_eq_true]
  refine ⟨if i < 6 then i else 6, by simp; split <;> omega, ?_⟩
  unfold same
  rw [beq_iff_eq]
  congr 1
  split
  · rfl
  · next h => rw [show dayName 6 = [83, 117, 110] from rfl]; unfold dayName; split <;> first | rfl | omega
def nonW (l : Bs) : Bool := l.all (! isWhite ·)
theorem dayName_nonW (i : Nat) : nonW (dayName i) = true := by unfold dayName; split <;> rfl
theorem monthName_nonW (i : Nat) : nonW (monthName i) = true := by unfold monthName; split <;> rfl
theorem dig_nonW (l : Bs) (h : l.all dig8 = true) : nonW l = true := by
  unfold nonW
  rw [List.all_eq_true] at h ⊢
  intro x hx
  have := h x hx
  unfold dig8 at this
  simp only [Bool.and_eq_true, decide_eq_true_eq] at this
  unfold isWhite
  obtain ⟨a, b⟩ := this
  have e : ∀ k : UInt8, k < 48 → (x == k) = false := fun k hk => by
    rw [beq_eq_false_iff_ne]; rintro rfl; exact absurd (UInt8.lt_of_lt_of_le hk a) (UInt8.lt_irrefl _)
  rw [e 9 (by decide), e 10 (by decide), e 13 (by decide), e 32 (by decide)]; rfl

theorem fields_sp (w r : Bs) (hw : w ≠ []) (h : nonW w = true) : fields (w ++ 32 :: r) = w :: fields r := by
  have htw : (w ++ 32 :: r).takeWhile (! isWhite ·) = w := by
    rw [List.takeWhile_append_of_pos (fun x hx => List.all_eq_true.1 h x hx)]
    rw [List.takeWhile_cons_of_neg (by decide), List.append_nil]
  have hdw : (w ++ 32 :: r).dropWhile (! isWhite ·) = 32 :: r := by
    rw [List.dropWhile_append_of_pos (fun x hx => List.all_eq_true.1 h x hx)]
    rw [List.dropWhile_cons_of_neg (by decide)]
  cases w with
  | nil => exact absurd rfl hw
  | cons c t =>
    have hc : isWhite c = false := by simpa using List.all_eq_true.1 h c (by simp)
    rw [List.cons_append] at htw hdw ⊢
    rw [fields_word c _ hc, htw, hdw, fields_white 32 r (by decide)]
theorem fields_end (w : Bs) (hw : w ≠ []) (h : nonW w = true) : fields w = [w] := by
  have htw : w.takeWhile (! isWhite ·) = w := by
    have e := List.takeWhile_append_of_pos (l₂ := []) (fun x hx => List.all_eq_true.1 h x hx)
    simpa using e
  have hdw : w.dropWhile (! isWhite ·) = [] := by
    have e := List.dropWhile_append_of_pos (l₂ := []) (fun x hx => List.all_eq_true.1 h x hx)
    simpa using e
  cases w with
  | nil => exact absurd rfl hw
  | cons c t =>
    have hc : isWhite c = false := by simpa using List.all_eq_true.1 h c (by simp)
    rw [fields_word c _ hc, htw, hdw, fields_nil]

theorem split_clock (a b c d e f : UInt8) (ha : a ≠ 58) (hb : b ≠ 58) (hc : c ≠ 58) (hd : d ≠ 58) (he : e ≠ 58) (hf : f ≠ 58) :
    Lib.split [a, b, 58, c, d, 58, e, f] [58] = [[a, b], [c, d], [e, f]] := by
  have h : ∀ x : UInt8, x ≠ 58 → (58 == x) = false := fun x hx => by rw [beq_eq_false_iff_ne]; exact Ne.symm hx
  simp [Lib.split, Lib.splitK, Lib.count, Lib.countFrom, Lib.index, List.isPrefixOf, h a ha, h b hb, h c hc, h d hd, h e he, h f hf]
theorem p2_ne (n : Nat) (h : n < 100) : (UInt8.ofNat (48 + n / 10)) ≠ 58 ∧ (UInt8.ofNat (48 + n % 10)) ≠ 58 := by
  have := (dig2 n h).1
  unfold p2 dig8 at this
  simp only [List.all_cons, List.all_nil, Bool.and_true, Bool.and_eq_true, decide_eq_true_eq] at this
  obtain ⟨⟨_, a⟩, ⟨_, b⟩⟩ := this
  constructor
  · intro e; rw [e] at a; exact absurd a (by decide)
  · intro e; rw [e] at b; exact absurd b (by decide)
theorem clock_p2 (ms : Int) (h m s : Nat) (hh : ms / 3600000 % 24 = (h : Int)) (hm : ms / 60000 % 60 = (m : Int)) (hs : ms / 1000 % 60 = (s : Int)) (b1 : h < 24) (b2 : m < 60) (b3 : s < 60) :
    clock ms = p2 h ++ [58] ++ p2 m ++ [58] ++ p2 s := by
  unfold clock
  rw [hh, hm, hs, pad2 h (by omega), pad2 m (by omega), pad2 s (by omega)]
theorem tod_back (h m s : Nat) (b1 : h < 24) (b2 : m < 60) (b3 : s < 60) : timeOfDay (p2 h ++ [58] ++ p2 m ++ [58] ++ p2 s) = some ((h : Int) * 3600000 + (m : Int) * 60000 + (s : Int) * 1000) := by
  have n1 := p2_ne h (by omega)
  have n2 := p2_ne m (by omega)
  have n3 := p2_ne s (by omega)
  have hsp : Lib.split (p2 h ++ [58] ++ p2 m ++ [58] ++ p2 s) [58] = [p2 h, p2 m, p2 s] := split_clock _ _ _ _ _ _ n1.1 n1.2 n2.1 n2.2 n3.1 n3.2
  unfold timeOfDay
  rw [hsp]
  dsimp only
  rw [(dig2 h (by omega)).2.1, (dig2 m (by omega)).2.1, (dig2 s (by omega)).2.1]
  dsimp only
  rw [if_neg (by omega), if_neg (by omega), if_neg (by omega), Int.min_eq_left (by omega)]
theorem clock_nonW (h m s : Nat) (b1 : h < 24) (b2 : m < 60) (b3 : s < 60) : nonW (p2 h ++ [58] ++ p2 m ++ [58] ++ p2 s) = true := by
  have e1 := dig_nonW _ (dig2 h (by omega)).1
  have e2 := dig_nonW _ (dig2 m (by omega)).1
  have e3 := dig_nonW _ (dig2 s (by omega)).1
  unfold nonW at *
  simp only [List.all_append, e1, e2, e3]; rfl

/-- What is behind a chosen civil date. -/
theorem unasc_ascOf (ms y m d : Int) (hms : isTime ms = true) (hs : ms % 1000 = 0) (h : Civ (ms / dayMs) y m d) : unasc (ascOf ms y m d) = some ms := by
  have h0 : 0 ≤ ms ∧ ms ≤ 70368744177664 := by unfold isTime maxTime at hms; simpa using hms
  obtain ⟨c1, c2, c3, c4, c5, c6, c7⟩ := h
  unfold dayMs at c7
  obtain ⟨H, hH⟩ : ∃ H : Nat, ms / 3600000 % 24 = (H : Int) := ⟨(ms / 3600000 % 24).toNat, by omega⟩
  obtain ⟨M, hM⟩ : ∃ H : Nat, ms / 60000 % 60 = (H : Int) := ⟨(ms / 60000 % 60).toNat, by omega⟩
  obtain ⟨S, hS⟩ : ∃ H : Nat, ms / 1000 % 60 = (H : Int) := ⟨(ms / 1000 % 60).toNat, by omega⟩
  have b1 : H < 24 := by omega
  have b2 : M < 60 := by omega
  have b3 : S < 60 := by omega
  obtain ⟨D, rfl⟩ : ∃ D : Nat, d = (D : Int) := ⟨d.toNat, by omega⟩
  obtain ⟨K, rfl⟩ : ∃ K : Nat, y = ((1970 + K : Nat) : Int) := ⟨(y - 1970).toNat, by omega⟩
  obtain ⟨I, rfl⟩ : ∃ I : Nat, m = (I : Int) + 1 := ⟨(m - 1).toNat, by omega⟩
  have hdl : daysOf ((1970 + K : Nat) : Int) ((I : Int) + 1) ≤ 32 := by
    unfold daysOf
    have h1 : ∀ i, mdays i ≤ 31 := fun i => by unfold mdays; split <;> omega
    have h2 : leap1 ((1970 + K : Nat) : Int) ≤ 1 := by unfold leap1; split <;> omega
    have := h1 ((I : Int) + 1 - 1).toNat
    split <;> omega
  have hK : K < 2231 := by omega
  have hI : I < 12 := by omega
  have hD : D < 100 := by omega
  have hmn : ((I : Int) + 1 - 1).toNat = I := by omega
  unfold ascOf
  rw [hmn, clock_p2 ms H M S hH hM hS b1 b2 b3, pad4 (1970 + K) (by omega) (by omega), padD D hD]
  have hf : fields (weekday ms ++ [32] ++ monthName I ++ [32] ++ (if D < 10 then [32, UInt8.ofNat (48 + D)] else p2 D) ++ [32] ++ (p2 H ++ [58] ++ p2 M ++ [58] ++ p2 S) ++ [32] ++ p4 (1970 + K)) =
      [weekday ms, monthName I, (if D < 10 then [UInt8.ofNat (48 + D)] else p2 D), p2 H ++ [58] ++ p2 M ++ [58] ++ p2 S, p4 (1970 + K)] := by
    have hwd : nonW (weekday ms) = true := dayName_nonW _
    have hwn : weekday ms ≠ [] := by unfold weekday dayName; split <;> simp
    have hmo : monthName I ≠ [] := by unfold monthName; split <;> simp
    have hck := clock_nonW H M S b1 b2 b3
    have hckn : p2 H ++ [58] ++ p2 M ++ [58] ++ p2 S ≠ [] := by simp [p2]
    have hye := dig_nonW _ (dig4 K hK).1
    generalize weekday ms = w1 at *
    generalize p2 H ++ [58] ++ p2 M ++ [58] ++ p2 S = w4 at *
    have hw2 := monthName_nonW I
    generalize monthName I = w2 at *
    have hy0 : p4 (1970 + K) ≠ [] := by simp [p4]
    generalize p4 (1970 + K) = w5 at *
    have hday : ∃ w3, (if D < 10 then [UInt8.ofNat (48 + D)] else p2 D) = w3 ∧ w3 ≠ [] ∧ nonW w3 = true ∧ ∀ r, fields ((if D < 10 then [32, UInt8.ofNat (48 + D)] else p2 D) ++ r) = fields (w3 ++ r) := by
      by_cases h10 : D < 10
      · refine ⟨_, rfl, by simp [h10], ?_, fun r => ?_⟩
        · rw [if_pos h10]; exact dig_nonW _ (by rw [List.all_cons, (dig1 D h10).1]; rfl)
        · rw [if_pos h10, if_pos h10]; exact fields_white 32 _ (by decide)
      · refine ⟨_, rfl, by simp [h10, p2], ?_, fun r => by rw [if_neg h10, if_neg h10]⟩
        rw [if_neg h10]; exact dig_nonW _ (dig2 D hD).1
    obtain ⟨w3, e3, n3, q3, hr⟩ := hday
    rw [e3]
    have := hr ([32] ++ w4 ++ [32] ++ w5)
    rw [List.append_assoc, List.append_assoc, List.append_assoc, List.append_assoc, List.append_assoc, List.append_assoc, List.append_assoc]
    show fields (w1 ++ 32 :: (w2 ++ 32 :: ((if D < 10 then [32, UInt8.ofNat (48 + D)] else p2 D) ++ (32 :: (w4 ++ 32 :: w5))))) = _
    rw [fields_sp w1 _ hwn hwd, fields_sp w2 _ hmo hw2, hr, fields_sp w3 _ n3 q3, fields_sp w4 _ hckn hck, fields_end w5 hy0 hye]
  unfold unasc
  rw [hf]
  dsimp only
  have hday : isDay (weekday ms) = true := day_back _
  rw [if_pos hday, (dig4 K hK).2]
  dsimp only
  have hdd : digits (if D < 10 then [UInt8.ofNat (48 + D)] else p2 D) 1 2 = some (D : Int) := by
    by_cases h10 : D < 10
    · rw [if_pos h10]; exact (dig1 D h10).2
    · rw [if_neg h10]; exact (dig2 D hD).2.2
  unfold dayAt
  rw [hdd]
  dsimp only
  rw [month_back I hI]
  unfold dayNumber
  rw [if_neg (by omega)]
  dsimp only
  rw [tod_back H M S b1 b2 b3]
  dsimp only
  have hsum : (before ((1970 + K : Nat) : Int) + (D : Int) - 1 + cum ((1970 + K : Nat) : Int) ((I : Int) + 1 - 1).toNat) * dayMs + ((H : Int) * 3600000 + (M : Int) * 60000 + (S : Int) * 1000) = ms := by
    rw [c7]; unfold dayMs; omega
  rw [hsum, if_pos hms]
end Go.Proofs.YtbhhaehdoiaihaaGreatDoor.Pm
