/- The walks of date.padded, clock and Asctime. -/
import Derived.Test.YtbhhaehdoiaihaaGreatDoorWk
import Derived.Lib.ItoaLen
import Derived.Deep.RegionHeld3
namespace Go.Proofs.YtbhhaehdoiaihaaGreatDoor
open Go.RowKit

theorem repeatL_one (c : UInt8) (n : Nat) : Lib.repeatL [c] n = List.replicate n c := by
  induction n with
  | zero => rfl
  | succ n ih => rw [List.replicate_succ, ← ih]; rfl
theorem ba_app (a b : List UInt8) : (⟨a.toArray⟩ ++ ⟨b.toArray⟩ : ByteArray) = ⟨(a ++ b).toArray⟩ := by
  apply ByteArray.ext; simp

def StrPost (l : Pm.Bs) (w : World) (e : Ending) (w' : World) : Prop := e = .returned (.string ⟨l.toArray⟩) ∧ Below w.heap.size w w'

theorem itoa_c (n : Int) (h0 : 0 ≤ n) (h1 : n ≤ 10000) (w : World) (ht : Tab w) : Calls Tryz.prog 59 #[.int .i64 n] w (StrPost (Lib.itoa n) w) := by
  have H := Lib.hid (Tryz.strconv_Itoa n (by omega) (by omega) w ht.pow)
  unfold StrPost
  clear ht
  go_enter Tryz.func59, Tryz.ntmps59
  go_wp2_with (go_at_call 83; refine (H.out).mono ?_; rintro e w' ⟨rfl, k, os, rfl⟩)
  go_ret
  exact ⟨rfl, Lib.below_grow _ _ (Nat.le_refl _) _ _⟩

theorem padded_any (n : Int) (size : Nat) (c : UInt8) (h0 : 0 ≤ n) (h1 : n ≤ 10000) (hs : size ≤ 100) (w : World) (ht : Tab w) :
    Calls Tryz.prog 41 #[.int .i64 n, .int .i64 size, .string ⟨#[c]⟩] w (StrPost (Pm.padded n size c) w) := by
  have H := Lib.hid (itoa_c n h0 h1 w ht)
  have hl := Lib.itoa_length_le n (by omega) (by omega)
  have HR : Hid (∀ w2, Calls Tryz.prog 60 #[.string ⟨#[c]⟩, .int .i64 ((size - (Lib.itoa n).length : Nat) : Int)] w2 (StrPost (List.replicate (size - (Lib.itoa n).length) c) w2)) := by
    refine Lib.hid fun w2 => ?_
    refine (Tryz.strings_Repeat ⟨#[c]⟩ (size - (Lib.itoa n).length) w2 (by omega) ?_).mono ?_
    · rw [show (⟨#[c]⟩ : ByteArray).size = 1 from rfl]; omega
    · rintro e w' ⟨rfl, hb⟩
      exact ⟨by rw [show (⟨#[c]⟩ : ByteArray).data.toList = [c] from rfl, repeatL_one], hb⟩
  have hpad : Pm.padded n size c = List.replicate (size - (Lib.itoa n).length) c ++ Lib.itoa n := rfl
  rw [hpad]
  unfold StrPost at *
  clear ht hpad
  generalize Lib.itoa n = d at *
  have hsz : (⟨d.toArray⟩ : ByteArray).size = d.length := Lib.size_eq _
  have hr0 : size ≤ d.length → List.replicate (size - d.length) c = [] := fun h => by rw [show size - d.length = 0 by omega]; rfl
  have hrl : (List.replicate (size - d.length) c).length ≤ 100 := by rw [List.length_replicate]; omega
  generalize List.replicate (size - d.length) c = r at *
  by_cases hle : d.length ≤ size
  · have e1 : (size : Int) - (d.length : Int) = ((size - d.length : Nat) : Int) := by omega
    go_enter Tryz.func41, Tryz.ntmps41
    go_wp2_with (first
      | (go_at_call 59; refine (H.out).mono ?_; rintro e w' ⟨rfl, hb1⟩)
      | (go_at_call 60; refine (HR.out _).mono ?_; rintro e w2 ⟨rfl, hb2⟩))
    go_ret
    exact ⟨ret_str (ba_app _ _), hb1.trans (hb2.mono hb1.size)⟩
  · have e0 : size - d.length = 0 := by omega
    have HR : Hid (∀ w2, Calls Tryz.prog 60 #[.string ⟨#[c]⟩, .int .i64 0] w2 fun e w' => e = .returned (.string ⟨#[]⟩) ∧ Below w2.heap.size w2 w') := by
      rw [e0, hr0 (by omega)] at HR; exact HR
    rw [hr0 (by omega)]
    have e2 : max ((size : Int) - (d.length : Int)) 0 = 0 := by omega
    go_enter Tryz.func41, Tryz.ntmps41
    go_wp2_with (first
      | (go_at_call 59; refine (H.out).mono ?_; rintro e w' ⟨rfl, hb1⟩)
      | (go_at_call 60; refine (HR.out _).mono ?_; rintro e w2 ⟨rfl, hb2⟩))
    go_ret
    exact ⟨ret_str (ba_app [] _), hb1.trans (hb2.mono hb1.size)⟩

theorem padded_len (n : Int) (size : Nat) (c : UInt8) (h0 : 0 ≤ n) (h1 : n ≤ 10000) (hs : size ≤ 100) : (Pm.padded n size c).length ≤ 200 := by
  have := Lib.itoa_length_le n (by omega) (by omega)
  unfold Pm.padded
  rw [List.length_append, List.length_replicate]; omega
theorem ret_str' {a b : ByteArray} (h : a = b) {w w' : World} {B : Nat} (hb : Below B w w') : Ending.returned (.string a) = .returned (.string b) ∧ Below B w w' := ⟨by rw [h], hb⟩

theorem clock_any (ms : Int) (h0 : 0 ≤ ms) (h1 : ms ≤ 70368744177664) (w : World) (ht : Tab w) :
    Calls Tryz.prog 42 #[.int .i64 ms] w (StrPost (Pm.clock ms) w) := by
  have HP : Hid (∀ n, 0 ≤ n → n ≤ 10000 → ∀ w, Tab w → Calls Tryz.prog 41 #[.int .i64 n, .int .i64 2, .string ⟨#[48]⟩] w fun e w' => e = .returned (.string ⟨(Pm.padded n 2 48).toArray⟩) ∧ Below w.heap.size w w') :=
    Lib.hid fun n a b w ht => padded_any n 2 48 a b (by omega) w ht
  have HT := Lib.hid ht
  clear ht
  have z1 := padded_len (ms / 3600000 % 24) 2 48 (by omega) (by omega) (by omega)
  have z2 := padded_len (ms / 60000 % 60) 2 48 (by omega) (by omega) (by omega)
  have z3 := padded_len (ms / 1000 % 60) 2 48 (by omega) (by omega) (by omega)
  have H1 := Lib.hid (HP.out (ms / 3600000 % 24) (by omega) (by omega))
  have H2 := Lib.hid (HP.out (ms / 60000 % 60) (by omega) (by omega))
  have H3 := Lib.hid (HP.out (ms / 1000 % 60) (by omega) (by omega))
  clear HP
  unfold StrPost Pm.clock
  generalize Pm.padded (ms / 3600000 % 24) 2 48 = p1 at *
  generalize Pm.padded (ms / 60000 % 60) 2 48 = p2 at *
  generalize Pm.padded (ms / 1000 % 60) 2 48 = p3 at *
  go_enter Tryz.func42, Tryz.ntmps42
  go_wp2_with (first
      | (have _x := hb2; go_at_call 41; refine (H3.out _ (HT.out.below hb2)).mono ?_; rintro e w3 ⟨rfl, hb⟩; have hb3 := hb2.trans (hb.mono hb2.size); clear hb)
      | (have _x := hb1; go_at_call 41; refine (H2.out _ (HT.out.below hb1)).mono ?_; rintro e w2 ⟨rfl, hb⟩; have hb2 := hb1.trans (hb.mono hb1.size); clear hb)
      | (go_at_call 41; refine (H1.out _ HT.out).mono ?_; rintro e w1 ⟨rfl, hb1⟩))
  all_goals first | (exfalso; omega) | skip
  go_ret
  exact ⟨ret_str (by apply ByteArray.ext; simp), hb3⟩

theorem cum_mono (y : Int) (a b : Nat) (h : a ≤ b) : Pm.cum y a ≤ Pm.cum y b := by
  induction b with
  | zero => have : a = 0 := by omega
            subst this; exact Int.le_refl _
  | succ b ih =>
    rcases Nat.lt_or_ge a (b + 1) with h2 | h2
    · have := ih (by omega)
      have hd := daysOf_bd y ((b : Int) + 1)
      show _ ≤ Pm.cum y b + Pm.daysOf y ((b : Int) + 1)
      omega
    · have : a = b + 1 := by omega
      subst this; exact Int.le_refl _
theorem leap1_eq (y : Int) : Pm.leap1 y = Pm.leaps y - Pm.leaps (y - 1) := by
  unfold Pm.leap1 Pm.leapY Pm.leaps
  simp only [Bool.and_eq_true, Bool.or_eq_true, beq_iff_eq, bne_iff_ne, ne_eq]
  split <;> omega
theorem cum12 (y : Int) : Pm.cum y 12 = 365 + Pm.leap1 y := by
  simp [Pm.cum, Pm.daysOf, Pm.mdays]; omega
theorem before_succ12 (y : Int) : Pm.before (y + 1) = Pm.before y + Pm.cum y 12 := by
  rw [cum12, before_succ]; omega
theorem before_mono (y : Int) (k : Nat) : Pm.before y + 365 * k ≤ Pm.before (y + k) := by
  induction k with
  | zero => simp
  | succ k ih =>
    have h := before_succ (y + k)
    have h2 := leap1_bd (y + k)
    rw [show y + ((k + 1 : Nat) : Int) = y + k + 1 by omega]
    omega
theorem civ_year {n y m d y' m' d' : Int} (h : Pm.Civ n y m d) (h' : Pm.Civ n y' m' d') : y ≤ y' := by
  obtain ⟨a1, a2, a3, a4, a5, a6, a7⟩ := h
  obtain ⟨b1, b2, b3, b4, b5, b6, b7⟩ := h'
  by_cases hle : y ≤ y'
  · exact hle
  exfalso
  obtain ⟨k, rfl⟩ : ∃ k : Nat, y = y' + 1 + k := ⟨(y - y' - 1).toNat, by omega⟩
  have h1 := before_mono (y' + 1) k
  have h2 := before_succ12 y'
  have h3 := cum_mono y' ((m' - 1).toNat + 1) 12 (by omega)
  have h4 := (cum_bd (y' + 1 + k) (m - 1).toNat).1
  have h5 : Pm.cum y' ((m' - 1).toNat + 1) = Pm.cum y' (m' - 1).toNat + Pm.daysOf y' m' := by
    show Pm.cum y' (m' - 1).toNat + Pm.daysOf y' (((m' - 1).toNat : Int) + 1) = _
    rw [show (((m' - 1).toNat : Int) + 1) = m' by omega]
  omega
theorem civ_month {n y m d m' d' : Int} (h : Pm.Civ n y m d) (h' : Pm.Civ n y m' d') : m ≤ m' := by
  obtain ⟨a1, a2, a3, a4, a5, a6, a7⟩ := h
  obtain ⟨b1, b2, b3, b4, b5, b6, b7⟩ := h'
  by_cases hle : m ≤ m'
  · exact hle
  exfalso
  have h3 := cum_mono y ((m' - 1).toNat + 1) (m - 1).toNat (by omega)
  have h5 : Pm.cum y ((m' - 1).toNat + 1) = Pm.cum y (m' - 1).toNat + Pm.daysOf y m' := by
    show Pm.cum y (m' - 1).toNat + Pm.daysOf y (((m' - 1).toNat : Int) + 1) = _
    rw [show (((m' - 1).toNat : Int) + 1) = m' by omega]
  omega
theorem civ_unique {n y m d y' m' d' : Int} (h : Pm.Civ n y m d) (h' : Pm.Civ n y' m' d') : y = y' ∧ m = m' ∧ d = d' := by
  have e1 : y = y' := by have := civ_year h h'; have := civ_year h' h; omega
  subst e1
  have e2 : m = m' := by have := civ_month h h'; have := civ_month h' h; omega
  subst e2
  refine ⟨rfl, rfl, ?_⟩
  have := h.2.2.2.2.2.2; have := h'.2.2.2.2.2.2
  omega
theorem civ_eq {n y m d : Int} (h : Pm.Civ n y m d) : Pm.civ n = (y, m, d) := by
  unfold Pm.civ
  have hex : ∃ p : Int × Int × Int, Pm.Civ n p.1 p.2.1 p.2.2 := ⟨(y, m, d), h⟩
  rw [dif_pos hex]
  obtain ⟨a, b, c⟩ := civ_unique (Classical.choose_spec hex) h
  exact Prod.ext a (Prod.ext b c)
theorem asctime_eq {ms y m d : Int} (ht : Pm.isTime ms = true) (h : Pm.Civ (ms / Pm.dayMs) y m d) : Pm.asctime ms = Pm.ascOf ms y m d := by
  unfold Pm.asctime; rw [if_pos ht, civ_eq h]
theorem asctime_no {ms : Int} (ht : Pm.isTime ms = false) : Pm.asctime ms = [] := by
  unfold Pm.asctime; rw [ht]; rfl
theorem nDig1 (u : Nat) (h : u < 10) : Lib.nDigits u = 1 := by unfold Lib.nDigits; simp [h]
theorem nDig2 (u : Nat) (h : 10 ≤ u) (h2 : u < 100) : Lib.nDigits u = 2 := by
  unfold Lib.nDigits; rw [dif_neg (by omega), nDig1 _ (by omega)]
theorem nDig4 (u : Nat) (h : 1000 ≤ u) (h2 : u < 10000) : Lib.nDigits u = 4 := by
  unfold Lib.nDigits; rw [dif_neg (by omega)]
  unfold Lib.nDigits; rw [dif_neg (by omega), nDig2 _ (by omega) (by omega)]
theorem itoa_len (n : Int) (h : 0 ≤ n) : (Lib.itoa n).length = Lib.nDigits n.toNat := by
  unfold Lib.itoa; rw [if_neg (by omega), Lib.decDigits_length]
theorem padded2 (n : Int) (c : UInt8) (h : 0 ≤ n) (h2 : n < 100) : (Pm.padded n 2 c).length = 2 := by
  unfold Pm.padded
  rw [List.length_append, List.length_replicate, itoa_len n h]
  by_cases h10 : n < 10
  · rw [nDig1 _ (by omega)]
  · rw [nDig2 _ (by omega) (by omega)]
theorem padded4 (n : Int) (c : UInt8) (h : 1000 ≤ n) (h2 : n < 10000) : (Pm.padded n 4 c).length = 4 := by
  unfold Pm.padded
  rw [List.length_append, List.length_replicate, itoa_len n (by omega), nDig4 _ (by omega) (by omega)]
theorem clock_len (ms : Int) : (Pm.clock ms).length = 8 := by
  unfold Pm.clock
  simp only [List.length_append, List.length_cons, List.length_nil]
  rw [padded2 _ _ (by omega) (by omega), padded2 _ _ (by omega) (by omega), padded2 _ _ (by omega) (by omega)]

set_option maxHeartbeats 1600000 in
theorem asctime_any (ms : Int) (w : World) (ht : Tab w) :
    Calls Tryz.prog 18 #[.int .i64 ms] w (StrPost (Pm.asctime ms) w) := by
  have hist := Lib.hid (isTime_any ms w)
  cases hv : Pm.isTime ms with
  | false =>
    rw [asctime_no hv]
    rw [hv] at hist
    unfold StrPost
    go_enter Tryz.func18, Tryz.ntmps18
    go_wp2_with (go_at_call 38; refine (hist.out).mono ?_; rintro e w' ⟨rfl, rfl⟩)
    go_ret
    exact ⟨rfl, Below.refl _ _⟩
  | true =>
    have h0 : 0 ≤ ms ∧ ms ≤ 70368744177664 := by
      unfold Pm.isTime Pm.maxTime at hv; simpa using hv
    rw [hv] at hist
    have hciv := Lib.hid (civil_rel ms h0.1 h0.2 w ht)
    have hasc := Lib.hid (fun y m d => @asctime_eq ms y m d hv)
    generalize Pm.asctime ms = R at *
    have hwd := Lib.hid (fun w (ht : Tab w) => weekday_any ms h0.1 h0.2 w ht)
    have hck := Lib.hid (fun w (ht : Tab w) => clock_any ms h0.1 h0.2 w ht)
    have z1 : (Pm.weekday ms).length = 3 := dayName_len _
    have z2 := clock_len ms
    have HPd : Hid (∀ n, 0 ≤ n → n ≤ 10000 → ∀ w, Tab w → Calls Tryz.prog 41 #[.int .i64 n, .int .i64 2, .string ⟨#[32]⟩] w (StrPost (Pm.padded n 2 32) w)) :=
      Lib.hid fun n a b w ht => padded_any n 2 32 a b (by omega) w ht
    have HPy : Hid (∀ n, 0 ≤ n → n ≤ 10000 → ∀ w, Tab w → Calls Tryz.prog 41 #[.int .i64 n, .int .i64 4, .string ⟨#[48]⟩] w (StrPost (Pm.padded n 4 48) w)) :=
      Lib.hid fun n a b w ht => padded_any n 4 48 a b (by omega) w ht
    have HT := Lib.hid ht
    unfold Pm.ascOf at hasc
    generalize Pm.weekday ms = p1 at *
    generalize Pm.clock ms = p4 at *
    clear ht
    go_enter Tryz.func18, Tryz.ntmps18
    go_wp2_with (first
      | (go_at_call 38; refine (hist.out).mono ?_; rintro e w' ⟨rfl, rfl⟩)
      | (go_at_call 39; refine (hciv.out).mono ?_; rintro e w' ⟨y, m, d, hcv, rfl, rfl⟩))
    obtain ⟨c1, c2, c3, c4, c5, c6, -⟩ := Lib.hid hcv |>.out
    have c7 := (daysOf_bd y m).2
    have hR := hasc.out y m d hcv
    clear hasc hcv
    have hmn := HT.out.month (m - 1).toNat (by omega)
    have z3 := monthName_len (m - 1).toNat
    generalize Pm.monthName (m - 1).toNat = p2 at *
    have z4 := padded2 d 32 (by omega) (by omega)
    have z5 := padded4 y 48 (by omega) (by omega)
    have hd := Lib.hid (HPd.out d (by omega) (by omega))
    have hy := Lib.hid (HPy.out y (by omega) (by omega))
    generalize Pm.padded d 2 32 = p3 at *
    generalize Pm.padded y 4 48 = p5 at *
    clear HPd HPy
    unfold StrPost at *
    have e1 : IntKind.i64.wrap (m - 1) = m - 1 := by rw [IntWalk.i64_in _ (by omega)]
    have e2 : (0 : Int) ≤ m - 1 := by omega
    have e3 : (m - 1 : Int) < 12 := by omega
    have e4 : (m - 1).toNat = m.toNat - 1 := by omega
    rw [e4] at hmn
    have HT1 : Hid (Tab w.drew) := HT.out.drewN 1
    go_region_held3 (fun w' => w'.cell? ⟨0, m.toNat - 1, none⟩ = some (.string ⟨p2.toArray⟩))
      (first | exact hmn | exact ((Below.cell hb3 (World.block_lt_of_cell? _ _ hmn)).trans hmn) | exact ((Below.cell hb2 (World.block_lt_of_cell? _ _ hmn)).trans hmn) | exact ((Below.cell hb1 (World.block_lt_of_cell? _ _ hmn)).trans hmn))
      (first
        | (go_at_call 40; refine (hwd.out _ HT1.out).mono ?_; rintro e w' ⟨rfl, rfl⟩)
        | (have _x := hb2; go_at_call 41; refine (hy.out _ (HT1.out.below hb2)).mono ?_; rintro e w3 ⟨rfl, hb⟩; have hb3 := hb2.trans (hb.mono hb2.size); clear hb)
        | (go_at_call 42; refine (hck.out _ (HT1.out.below hb1)).mono ?_; rintro e w2 ⟨rfl, hb⟩; have hb2 := hb1.trans (hb.mono hb1.size); clear hb)
        | (go_at_call 41; refine (hd.out _ HT1.out).mono ?_; rintro e w1 ⟨rfl, hb1⟩))
    go_wp2
    go_ret
    have hb0 : Below w.heap.size w w.drew := below_drewN (Below.refl _ _) 1
    exact ⟨ret_str (by apply ByteArray.ext; simp [hR]), hb0.trans hb3⟩
end Go.Proofs.YtbhhaehdoiaihaaGreatDoor
