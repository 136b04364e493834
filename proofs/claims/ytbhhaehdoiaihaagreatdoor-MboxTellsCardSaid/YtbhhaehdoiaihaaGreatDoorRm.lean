/- The walk of missiveref11.Unasctime. -/
import Derived.Test.YtbhhaehdoiaihaaGreatDoorRl
namespace Go.Proofs.YtbhhaehdoiaihaaGreatDoor
open Go.RowKit

theorem rfields_other (s : ByteArray) (hs : s.size ≤ 1000000) (h : (Pm.fields s.data.toList).length ≠ 5) (w : World) : Calls Tryz.prog 70 #[.string s] w (OtherPost w) := by
  refine (rfields_any s hs w).mono ?_
  rintro e w' ⟨v, rfl, hown, hb⟩
  obtain ⟨A, c, rfl⟩ := own_form hown
  exact ⟨A, _, c, by rw [bne_iff_ne]; omega, rfl, hb⟩
theorem rfields_five (s : ByteArray) (hs : s.size ≤ 1000000) (a b c d x : Pm.Bs) (h : Pm.fields s.data.toList = [a, b, c, d, x]) (w : World) : Calls Tryz.prog 70 #[.string s] w (FivePost a b c d x w) := by
  refine (rfields_any s hs w).mono ?_
  rintro e w' ⟨v, rfl, hown, hb⟩
  rw [h] at hown
  rcases hown.2 with ⟨_, h0⟩ | ⟨g, cap, cur, rfl, _⟩
  · simp at h0
  · refine ⟨g, cap, rfl, ?_, ?_, ?_, ?_, ?_, hb⟩
    all_goals rw [hown.cellAt _ (by simp)]; rfl
theorem digits12_bd (l : Pm.Bs) : 0 ≤ (Pm.digits l 1 2).getD 0 ∧ (Pm.digits l 1 2).getD 0 ≤ 99 := by
  by_cases h : (l.length : Int) < 1 ∨ 2 < (l.length : Int)
  · rw [digits_out _ _ _ h]; simp
  · rw [digits_in _ _ _ h]
    unfold Pm.number
    rw [if_neg (by omega)]
    split
    · next ha =>
      have hb := val_bd l.length l rfl ha
      have : (10 : Int) ^ l.length ≤ 10 ^ 2 := by
        have : (10 : Nat) ^ l.length ≤ 10 ^ 2 := Nat.pow_le_pow_right (by omega) (by omega)
        exact_mod_cast this
      show 0 ≤ val l ∧ val l ≤ 99
      omega
    · simp
theorem digits44_bd (l : Pm.Bs) : 0 ≤ (Pm.digits l 4 4).getD 0 ∧ (Pm.digits l 4 4).getD 0 ≤ 9999 := by
  cases h : Pm.digits l 4 4 with
  | none => simp
  | some v => exact digits4_bd l v h
theorem sec_bd (b : Bool) (h m s : Int) (h0 : 0 ≤ h) (h1 : h ≤ 99) (m0 : 0 ≤ m) (m1 : m ≤ 99) (s0 : 0 ≤ s) : 0 ≤ secClock b h m s ∧ secClock b h m s ≤ 400000 := by
  unfold secClock
  split <;> omega
theorem clock_bd (l : Pm.Bs) : 0 ≤ (clockR l).2 ∧ (clockR l).2 ≤ 400000 := by
  unfold clockR
  split
  · next a b _ => have := dg2_bd a; have := dg2_bd b; exact sec_bd _ _ _ _ (by omega) (by omega) (by omega) (by omega) (by omega)
  · next a b c _ => have := dg2_bd a; have := dg2_bd b; have := dg2_bd c; exact sec_bd _ _ _ _ (by omega) (by omega) (by omega) (by omega) (by omega)
  · simp
theorem namedI_bd (tab : Nat → Pm.Bs) (n : Nat) (s : Pm.Bs) : -1 ≤ namedI tab n s ∧ namedI tab n s < n := by
  unfold namedI
  split
  · omega
  · next j h =>
    rw [List.find?_range_eq_some] at h
    have := h.2.1
    simp at this
    omega

theorem drop_take_size' (l : Pm.Bs) (k : Nat) : (⟨l.toArray⟩ : ByteArray).extract k l.length = ⟨(l.drop k).toArray⟩ := by
  rw [Lib.extract_eq]
  simp only
  rw [List.take_of_length_le (by simp)]

set_option maxRecDepth 100000 in
set_option maxHeartbeats 6400000 in
theorem runasc_any (s : ByteArray) (hs : s.size ≤ 1000000) (w : World) :
    Calls Tryz.prog 48 #[.string s] w (UnPost s.data.toList w) := by
  unfold UnPost
  by_cases h5 : (Pm.fields s.data.toList).length = 5
  case neg =>
    rw [unasc_other _ h5]
    have hf := Lib.hid (rfields_other s hs h5 w)
    clear h5
    go_enter Tryz.func48, Tryz.ntmps48
    go_wp2_with (go_at_call 70; refine (hf.out).mono ?_; rintro e w1 ⟨A, n, c, hn, rfl, hb⟩)
    all_goals go_ret2
    all_goals exact ⟨rfl, hb⟩
  obtain ⟨a, b, c, d, x, hx⟩ : ∃ a b c d x, Pm.fields s.data.toList = [a, b, c, d, x] := by
    match hL : Pm.fields s.data.toList, h5 with
    | [a, b, c, d, x], _ => exact ⟨a, b, c, d, x, rfl⟩
  clear h5
  have hsz := Lib.size_eq s
  have hf := Lib.hid (rfields_five s hs a b c d x hx w)
  have za : a.length ≤ 1000000 := by have := fields_sizes _ a (by rw [hx]; simp); omega
  have zb : b.length ≤ 1000000 := by have := fields_sizes _ b (by rw [hx]; simp); omega
  have zc : c.length ≤ 1000000 := by have := fields_sizes _ c (by rw [hx]; simp); omega
  have zd : d.length ≤ 1000000 := by have := fields_sizes _ d (by rw [hx]; simp); omega
  have zx : x.length ≤ 1000000 := by have := fields_sizes _ x (by rw [hx]; simp); omega
  have hu := Lib.hid (unasc_five _ a b c d x hx)
  have sz : ∀ l : Pm.Bs, (⟨l.toArray⟩ : ByteArray).size = l.length := fun l => by rw [Lib.size_eq]
  have D1 := Lib.hid (fun w => rdigits_any ⟨c.toArray⟩ (by rw [sz]; omega) 1 2 (by omega) (by omega) (by omega) w)
  have D2 := Lib.hid (fun w => rdigits_any ⟨x.toArray⟩ (by rw [sz]; omega) 4 4 (by omega) (by omega) (by omega) w)
  have D3 := Lib.hid (fun w => rClock_any ⟨d.toArray⟩ (by rw [sz]; omega) w)
  have D4 := Lib.hid (fun w => months_named ⟨b.toArray⟩ (by rw [sz]; omega) w)
  have D5 := Lib.hid (fun w => days_named ⟨a.toArray⟩ (by rw [sz]; omega) w)
  unfold ClockPost at D3
  have dl : ∀ l : Pm.Bs, (⟨l.toArray⟩ : ByteArray).data.toList = l := fun _ => rfl
  rw [dl] at D1 D2 D3 D4 D5
  unfold monthsS at D4
  unfold daysS at D5
  have hmo := monthOf_named b
  have hda := isDay_named a
  have bm := namedI_bd Pm.monthName 12 b
  obtain ⟨b1, b2⟩ := digits12_bd c
  obtain ⟨b3, b4⟩ := digits44_bd x
  obtain ⟨b5, b6⟩ := clock_bd d
  clear hx hsz za zb zc zx sz dl
  generalize namedI Pm.monthName 12 b = mo at *
  generalize namedI (fun j => Pm.dayName ((j + 3) % 7)) 7 a = da at *
  generalize clockR d = ck at *
  obtain ⟨o3, sec⟩ := ck
  dsimp only at D3 b5 b6 hu
  obtain ⟨r, hr⟩ : ∃ r, r = Pm.unasc s.data.toList := ⟨_, rfl⟩
  rw [← hr] at hu ⊢
  clear hr
  generalize hdc : Pm.digits c 1 2 = dc at *
  generalize hdx : Pm.digits x 4 4 = dx at *
  clear hdc hdx
  have hn1 : dc = none → r = none := fun h => by rw [hu.out, h]
  have hn2 : dx = none → r = none := fun h => by rw [hu.out, h]; cases dc <;> rfl
  cases dc with
  | none =>
    obtain rfl : r = none := hn1 rfl
    clear hu hn1 hn2
    go_enter Tryz.func48, Tryz.ntmps48
    go_wp2_with (first
      | (go_at_call 70; refine (hf.out).mono ?_; rintro e w1 ⟨g, cap, rfl, c0, c1, c2, c3, c4, hb1⟩)
      | (have _x := hy1; go_at_call 71; refine (D2.out _).mono ?_; rintro e w' ⟨rfl, rfl⟩; have hy2 := True.intro)
      | (go_at_call 71; refine (D1.out _).mono ?_; rintro e w' ⟨rfl, rfl⟩; have hy1 := True.intro)
      | (go_at_call 72; refine (D3.out _).mono ?_; rintro e w2 ⟨rfl, hb⟩; have hb2 := hb1.trans (hb.mono hb1.size); have e0 := cell_up hb c0; have e1 := cell_up hb c1; have e3 := cell_up hb c3; clear hb)
      | (have _x := hb3; go_at_call 73; refine (D5.out _).mono ?_; rintro e w4 ⟨rfl, hb⟩; have hb4 := hb3.trans (hb.mono hb3.size); have g3 := cell_up hb f3; clear hb)
      | (go_at_call 73; refine (D4.out _).mono ?_; rintro e w3 ⟨rfl, hb⟩; have hb3 := hb2.trans (hb.mono hb2.size); have f0 := cell_up hb e0; have f3 := cell_up hb e3; clear hb)
      | (go_at_call 74; refine (HS.out _).mono ?_; rintro e w' ⟨rfl, rfl⟩)
      | (go_at_call 50; refine (HI.out _).mono ?_; rintro e w' ⟨rfl, rfl⟩))
    go_ret2
    exact ⟨rfl, hb3⟩
  | some dd =>
    cases dx with
    | none =>
      obtain rfl : r = none := hn2 rfl
      clear hu hn1 hn2
      go_enter Tryz.func48, Tryz.ntmps48
      go_wp2_with (first
        | (go_at_call 70; refine (hf.out).mono ?_; rintro e w1 ⟨g, cap, rfl, c0, c1, c2, c3, c4, hb1⟩)
        | (have _x := hy1; go_at_call 71; refine (D2.out _).mono ?_; rintro e w' ⟨rfl, rfl⟩; have hy2 := True.intro)
        | (go_at_call 71; refine (D1.out _).mono ?_; rintro e w' ⟨rfl, rfl⟩; have hy1 := True.intro)
        | (go_at_call 72; refine (D3.out _).mono ?_; rintro e w2 ⟨rfl, hb⟩; have hb2 := hb1.trans (hb.mono hb1.size); have e0 := cell_up hb c0; have e1 := cell_up hb c1; have e3 := cell_up hb c3; clear hb)
        | (have _x := hb3; go_at_call 73; refine (D5.out _).mono ?_; rintro e w4 ⟨rfl, hb⟩; have hb4 := hb3.trans (hb.mono hb3.size); have g3 := cell_up hb f3; clear hb)
        | (go_at_call 73; refine (D4.out _).mono ?_; rintro e w3 ⟨rfl, hb⟩; have hb3 := hb2.trans (hb.mono hb2.size); have f0 := cell_up hb e0; have f3 := cell_up hb e3; clear hb)
        | (go_at_call 74; refine (HS.out _).mono ?_; rintro e w' ⟨rfl, rfl⟩)
        | (go_at_call 50; refine (HI.out _).mono ?_; rintro e w' ⟨rfl, rfl⟩))
      go_ret2
      exact ⟨rfl, hb3⟩
    | some y =>
      clear hn1 hn2
      have hu2 := hu.out
      dsimp only at hu2
      rw [hmo, hda] at hu2
      simp only [Option.getD_some, Option.isSome_some] at D1 D2 b1 b2 b3 b4
      cases o3 with
      | false =>
        obtain rfl : r = none := by rw [hu2, if_neg (fun q => by cases q.1)]
        clear hu hu2
        go_enter Tryz.func48, Tryz.ntmps48
        go_wp2_with (first
          | (go_at_call 70; refine (hf.out).mono ?_; rintro e w1 ⟨g, cap, rfl, c0, c1, c2, c3, c4, hb1⟩)
          | (have _x := hy1; go_at_call 71; refine (D2.out _).mono ?_; rintro e w' ⟨rfl, rfl⟩; have hy2 := True.intro)
          | (go_at_call 71; refine (D1.out _).mono ?_; rintro e w' ⟨rfl, rfl⟩; have hy1 := True.intro)
          | (go_at_call 72; refine (D3.out _).mono ?_; rintro e w2 ⟨rfl, hb⟩; have hb2 := hb1.trans (hb.mono hb1.size); have e0 := cell_up hb c0; have e1 := cell_up hb c1; have e3 := cell_up hb c3; clear hb)
          | (have _x := hb3; go_at_call 73; refine (D5.out _).mono ?_; rintro e w4 ⟨rfl, hb⟩; have hb4 := hb3.trans (hb.mono hb3.size); have g3 := cell_up hb f3; clear hb)
          | (go_at_call 73; refine (D4.out _).mono ?_; rintro e w3 ⟨rfl, hb⟩; have hb3 := hb2.trans (hb.mono hb2.size); have f0 := cell_up hb e0; have f3 := cell_up hb e3; clear hb)
          | (go_at_call 74; refine (HS.out _).mono ?_; rintro e w' ⟨rfl, rfl⟩)
          | (go_at_call 50; refine (HI.out _).mono ?_; rintro e w' ⟨rfl, rfl⟩))
        go_ret2
        exact ⟨rfl, hb3⟩
      | true =>
        by_cases g1 : mo = -1
        · obtain rfl : r = none := by rw [hu2, if_neg (fun q => q.2.1 (by omega))]
          subst g1
          clear hu hu2
          go_enter Tryz.func48, Tryz.ntmps48
          go_wp2_with (first
            | (go_at_call 70; refine (hf.out).mono ?_; rintro e w1 ⟨g, cap, rfl, c0, c1, c2, c3, c4, hb1⟩)
            | (have _x := hy1; go_at_call 71; refine (D2.out _).mono ?_; rintro e w' ⟨rfl, rfl⟩; have hy2 := True.intro)
            | (go_at_call 71; refine (D1.out _).mono ?_; rintro e w' ⟨rfl, rfl⟩; have hy1 := True.intro)
            | (go_at_call 72; refine (D3.out _).mono ?_; rintro e w2 ⟨rfl, hb⟩; have hb2 := hb1.trans (hb.mono hb1.size); have e0 := cell_up hb c0; have e1 := cell_up hb c1; have e3 := cell_up hb c3; clear hb)
            | (have _x := hb3; go_at_call 73; refine (D5.out _).mono ?_; rintro e w4 ⟨rfl, hb⟩; have hb4 := hb3.trans (hb.mono hb3.size); have g3 := cell_up hb f3; clear hb)
            | (go_at_call 73; refine (D4.out _).mono ?_; rintro e w3 ⟨rfl, hb⟩; have hb3 := hb2.trans (hb.mono hb2.size); have f0 := cell_up hb e0; have f3 := cell_up hb e3; clear hb)
            | (go_at_call 74; refine (HS.out _).mono ?_; rintro e w' ⟨rfl, rfl⟩)
            | (go_at_call 50; refine (HI.out _).mono ?_; rintro e w' ⟨rfl, rfl⟩))
          go_ret2
          exact ⟨rfl, hb3⟩
        have g1' : ((mo + 1 : Int) == 0) = false := by rw [beq_eq_false_iff_ne]; omega
        by_cases g2 : da < 0
        · obtain rfl : r = none := by rw [hu2, if_neg (fun q => by have := of_decide_eq_true q.2.2.1; omega)]
          clear hu hu2
          go_enter Tryz.func48, Tryz.ntmps48
          go_wp2_with (first
            | (go_at_call 70; refine (hf.out).mono ?_; rintro e w1 ⟨g, cap, rfl, c0, c1, c2, c3, c4, hb1⟩)
            | (have _x := hy1; go_at_call 71; refine (D2.out _).mono ?_; rintro e w' ⟨rfl, rfl⟩; have hy2 := True.intro)
            | (go_at_call 71; refine (D1.out _).mono ?_; rintro e w' ⟨rfl, rfl⟩; have hy1 := True.intro)
            | (go_at_call 72; refine (D3.out _).mono ?_; rintro e w2 ⟨rfl, hb⟩; have hb2 := hb1.trans (hb.mono hb1.size); have e0 := cell_up hb c0; have e1 := cell_up hb c1; have e3 := cell_up hb c3; clear hb)
            | (have _x := hb3; go_at_call 73; refine (D5.out _).mono ?_; rintro e w4 ⟨rfl, hb⟩; have hb4 := hb3.trans (hb.mono hb3.size); have g3 := cell_up hb f3; clear hb)
            | (go_at_call 73; refine (D4.out _).mono ?_; rintro e w3 ⟨rfl, hb⟩; have hb3 := hb2.trans (hb.mono hb2.size); have f0 := cell_up hb e0; have f3 := cell_up hb e3; clear hb)
            | (go_at_call 74; refine (HS.out _).mono ?_; rintro e w' ⟨rfl, rfl⟩)
            | (go_at_call 50; refine (HI.out _).mono ?_; rintro e w' ⟨rfl, rfl⟩))
          go_ret2
          exact ⟨rfl, hb4⟩
        by_cases g4 : d.length = 8
        case neg =>
          obtain rfl : r = none := by rw [hu2, if_neg (fun q => g4 q.2.2.2.1)]
          have g4' : ((d.length : Int) != 8) = true := by rw [bne_iff_ne]; omega
          clear hu hu2
          go_enter Tryz.func48, Tryz.ntmps48
          go_wp2_with (first
            | (go_at_call 70; refine (hf.out).mono ?_; rintro e w1 ⟨g, cap, rfl, c0, c1, c2, c3, c4, hb1⟩)
            | (have _x := hy1; go_at_call 71; refine (D2.out _).mono ?_; rintro e w' ⟨rfl, rfl⟩; have hy2 := True.intro)
            | (go_at_call 71; refine (D1.out _).mono ?_; rintro e w' ⟨rfl, rfl⟩; have hy1 := True.intro)
            | (go_at_call 72; refine (D3.out _).mono ?_; rintro e w2 ⟨rfl, hb⟩; have hb2 := hb1.trans (hb.mono hb1.size); have e0 := cell_up hb c0; have e1 := cell_up hb c1; have e3 := cell_up hb c3; clear hb)
            | (have _x := hb3; go_at_call 73; refine (D5.out _).mono ?_; rintro e w4 ⟨rfl, hb⟩; have hb4 := hb3.trans (hb.mono hb3.size); have g3 := cell_up hb f3; clear hb)
            | (go_at_call 73; refine (D4.out _).mono ?_; rintro e w3 ⟨rfl, hb⟩; have hb3 := hb2.trans (hb.mono hb2.size); have f0 := cell_up hb e0; have f3 := cell_up hb e3; clear hb)
            | (go_at_call 74; refine (HS.out _).mono ?_; rintro e w' ⟨rfl, rfl⟩)
            | (go_at_call 50; refine (HI.out _).mono ?_; rintro e w' ⟨rfl, rfl⟩))
          go_ret2
          exact ⟨rfl, hb4⟩
        have g4' : ((d.length : Int) != 8) = false := by rw [bne_eq_false_iff_eq]; omega
        have hx6 : ((⟨d.toArray⟩ : ByteArray).extract 6 d.length).toList = d.drop 6 := by rw [drop_take_size', Lib.toList_data]
        have hx8 : ((⟨d.toArray⟩ : ByteArray).extract 6 8).toList = d.drop 6 := by rw [← g4]; exact hx6
        by_cases g5 : d.drop 6 = [54, 48]
        · obtain rfl : r = none := by rw [hu2, if_neg (fun q => q.2.2.2.2 g5)]
          rw [g5] at hx6 hx8
          have k6 : (((⟨d.toArray⟩ : ByteArray).extract 6 d.length).toList == [54, 48]) = true := by rw [hx6]; rfl
          have k8 : (((⟨d.toArray⟩ : ByteArray).extract 6 8).toList == [54, 48]) = true := by rw [hx8]; rfl
          clear hu hu2
          go_enter Tryz.func48, Tryz.ntmps48
          go_wp2_with (first
            | (go_at_call 70; refine (hf.out).mono ?_; rintro e w1 ⟨g, cap, rfl, c0, c1, c2, c3, c4, hb1⟩)
            | (have _x := hy1; go_at_call 71; refine (D2.out _).mono ?_; rintro e w' ⟨rfl, rfl⟩; have hy2 := True.intro)
            | (go_at_call 71; refine (D1.out _).mono ?_; rintro e w' ⟨rfl, rfl⟩; have hy1 := True.intro)
            | (go_at_call 72; refine (D3.out _).mono ?_; rintro e w2 ⟨rfl, hb⟩; have hb2 := hb1.trans (hb.mono hb1.size); have e0 := cell_up hb c0; have e1 := cell_up hb c1; have e3 := cell_up hb c3; clear hb)
            | (have _x := hb3; go_at_call 73; refine (D5.out _).mono ?_; rintro e w4 ⟨rfl, hb⟩; have hb4 := hb3.trans (hb.mono hb3.size); have g3 := cell_up hb f3; clear hb)
            | (go_at_call 73; refine (D4.out _).mono ?_; rintro e w3 ⟨rfl, hb⟩; have hb3 := hb2.trans (hb.mono hb2.size); have f0 := cell_up hb e0; have f3 := cell_up hb e3; clear hb)
            | (go_at_call 74; refine (HS.out _).mono ?_; rintro e w' ⟨rfl, rfl⟩)
            | (go_at_call 50; refine (HI.out _).mono ?_; rintro e w' ⟨rfl, rfl⟩))
          go_ret2
          exact ⟨rfl, hb4⟩
        have k6 : (((⟨d.toArray⟩ : ByteArray).extract 6 d.length).toList == [54, 48]) = false := by rw [hx6, beq_eq_false_iff_ne]; exact g5
        have k8 : (((⟨d.toArray⟩ : ByteArray).extract 6 8).toList == [54, 48]) = false := by rw [hx8, beq_eq_false_iff_ne]; exact g5
        have k7 : (d.drop 6 == [54, 48]) = false := by rw [beq_eq_false_iff_ne]; exact g5
        rw [if_pos ⟨rfl, by omega, by rw [decide_eq_true_iff]; omega, g4, g5⟩] at hu2
        have HS := Lib.hid (fun w => rstart_any y (mo + 1) dd (by omega) (by omega) (by omega) (by omega) (by omega) (by omega) w)
        unfold StartPost at HS
        cases hdn : Pm.dayNumber y (mo + 1) dd with
        | none =>
          rw [hdn] at HS hu2
          dsimp only at hu2
          subst hu2
          clear hu hdn
          go_enter Tryz.func48, Tryz.ntmps48
          go_wp2_with (first
            | (go_at_call 70; refine (hf.out).mono ?_; rintro e w1 ⟨g, cap, rfl, c0, c1, c2, c3, c4, hb1⟩)
            | (have _x := hy1; go_at_call 71; refine (D2.out _).mono ?_; rintro e w' ⟨rfl, rfl⟩; have hy2 := True.intro)
            | (go_at_call 71; refine (D1.out _).mono ?_; rintro e w' ⟨rfl, rfl⟩; have hy1 := True.intro)
            | (go_at_call 72; refine (D3.out _).mono ?_; rintro e w2 ⟨rfl, hb⟩; have hb2 := hb1.trans (hb.mono hb1.size); have e0 := cell_up hb c0; have e1 := cell_up hb c1; have e3 := cell_up hb c3; clear hb)
            | (have _x := hb3; go_at_call 73; refine (D5.out _).mono ?_; rintro e w4 ⟨rfl, hb⟩; have hb4 := hb3.trans (hb.mono hb3.size); have g3 := cell_up hb f3; clear hb)
            | (go_at_call 73; refine (D4.out _).mono ?_; rintro e w3 ⟨rfl, hb⟩; have hb3 := hb2.trans (hb.mono hb2.size); have f0 := cell_up hb e0; have f3 := cell_up hb e3; clear hb)
            | (go_at_call 74; refine (HS.out _).mono ?_; rintro e w' ⟨rfl, rfl⟩)
            | (go_at_call 50; refine (HI.out _).mono ?_; rintro e w' ⟨rfl, rfl⟩))
          go_ret2
          exact ⟨rfl, hb4⟩
        | some n =>
          have hnb : 0 ≤ n ∧ n ≤ 3000000 := by
            unfold Pm.dayNumber at hdn
            split at hdn
            · cases hdn
            · injection hdn with hdn
              have h1 := before_bd y (by omega) (by omega)
              have h2 := cum_bd y (mo + 1 - 1).toNat
              have h3 := daysOf_bd y (mo + 1)
              omega
          obtain ⟨n0, n1⟩ := hnb
          rw [hdn] at HS hu2
          dsimp only at hu2
          have HI := Lib.hid (fun w => ris_any (n * 86400000 + 1000 * sec) w)
          clear hu hdn
          simp only [Option.getD_some, Option.isSome_some] at HS
          cases hit : Pm.isTime (n * 86400000 + 1000 * sec) with
          | false =>
            rw [hit] at HI hu2
            simp only [Bool.false_eq_true, if_false] at hu2
            subst hu2
            clear hit
            go_enter Tryz.func48, Tryz.ntmps48
            go_wp2_with (first
              | (go_at_call 70; refine (hf.out).mono ?_; rintro e w1 ⟨g, cap, rfl, c0, c1, c2, c3, c4, hb1⟩)
              | (have _x := hy1; go_at_call 71; refine (D2.out _).mono ?_; rintro e w' ⟨rfl, rfl⟩; have hy2 := True.intro)
              | (go_at_call 71; refine (D1.out _).mono ?_; rintro e w' ⟨rfl, rfl⟩; have hy1 := True.intro)
              | (go_at_call 72; refine (D3.out _).mono ?_; rintro e w2 ⟨rfl, hb⟩; have hb2 := hb1.trans (hb.mono hb1.size); have e0 := cell_up hb c0; have e1 := cell_up hb c1; have e3 := cell_up hb c3; clear hb)
              | (have _x := hb3; go_at_call 73; refine (D5.out _).mono ?_; rintro e w4 ⟨rfl, hb⟩; have hb4 := hb3.trans (hb.mono hb3.size); have g3 := cell_up hb f3; clear hb)
              | (go_at_call 73; refine (D4.out _).mono ?_; rintro e w3 ⟨rfl, hb⟩; have hb3 := hb2.trans (hb.mono hb2.size); have f0 := cell_up hb e0; have f3 := cell_up hb e3; clear hb)
              | (go_at_call 74; refine (HS.out _).mono ?_; rintro e w' ⟨rfl, rfl⟩)
              | (go_at_call 50; refine (HI.out _).mono ?_; rintro e w' ⟨rfl, rfl⟩))
            go_ret2
            exact ⟨rfl, hb4⟩
          | true =>
            rw [hit] at HI hu2
            simp only [if_true] at hu2
            subst hu2
            clear hit
            go_enter Tryz.func48, Tryz.ntmps48
            go_wp2_with (first
              | (go_at_call 70; refine (hf.out).mono ?_; rintro e w1 ⟨g, cap, rfl, c0, c1, c2, c3, c4, hb1⟩)
              | (have _x := hy1; go_at_call 71; refine (D2.out _).mono ?_; rintro e w' ⟨rfl, rfl⟩; have hy2 := True.intro)
              | (go_at_call 71; refine (D1.out _).mono ?_; rintro e w' ⟨rfl, rfl⟩; have hy1 := True.intro)
              | (go_at_call 72; refine (D3.out _).mono ?_; rintro e w2 ⟨rfl, hb⟩; have hb2 := hb1.trans (hb.mono hb1.size); have e0 := cell_up hb c0; have e1 := cell_up hb c1; have e3 := cell_up hb c3; clear hb)
              | (have _x := hb3; go_at_call 73; refine (D5.out _).mono ?_; rintro e w4 ⟨rfl, hb⟩; have hb4 := hb3.trans (hb.mono hb3.size); have g3 := cell_up hb f3; clear hb)
              | (go_at_call 73; refine (D4.out _).mono ?_; rintro e w3 ⟨rfl, hb⟩; have hb3 := hb2.trans (hb.mono hb2.size); have f0 := cell_up hb e0; have f3 := cell_up hb e3; clear hb)
              | (go_at_call 74; refine (HS.out _).mono ?_; rintro e w' ⟨rfl, rfl⟩)
              | (go_at_call 50; refine (HI.out _).mono ?_; rintro e w' ⟨rfl, rfl⟩))
            go_ret2
            exact ⟨rfl, hb4⟩
end Go.Proofs.YtbhhaehdoiaihaaGreatDoor
