/- The walk of missiveref11.Asctime. -/
import Derived.Test.YtbhhaehdoiaihaaGreatDoorRc
namespace Go.Proofs.YtbhhaehdoiaihaaGreatDoor
open Go.RowKit

def daysS : ByteArray := ⟨#[84, 104, 117, 70, 114, 105, 83, 97, 116, 83, 117, 110, 77, 111, 110, 84, 117, 101, 87, 101, 100]⟩
def monthsS : ByteArray := ⟨#[74, 97, 110, 70, 101, 98, 77, 97, 114, 65, 112, 114, 77, 97, 121, 74, 117, 110, 74, 117, 108, 65, 117, 103, 83, 101, 112, 79, 99, 116, 78, 111, 118, 68, 101, 99]⟩
theorem days_at (W : Int) (h0 : 0 ≤ W) (h1 : W ≤ 6) : daysS.extract (3 * W).toNat (3 * W + 3).toNat = ⟨(Pm.dayName ((W + 3) % 7).toNat).toArray⟩ := by
  have h : W = 0 ∨ W = 1 ∨ W = 2 ∨ W = 3 ∨ W = 4 ∨ W = 5 ∨ W = 6 := by omega
  rcases h with rfl | rfl | rfl | rfl | rfl | rfl | rfl <;> (rw [Lib.extract_eq]; rfl)
theorem months_at (m : Int) (h0 : 1 ≤ m) (h1 : m ≤ 12) : monthsS.extract (3 * m - 3).toNat (3 * m).toNat = ⟨(Pm.monthName (m - 1).toNat).toArray⟩ := by
  have h : m = 1 ∨ m = 2 ∨ m = 3 ∨ m = 4 ∨ m = 5 ∨ m = 6 ∨ m = 7 ∨ m = 8 ∨ m = 9 ∨ m = 10 ∨ m = 11 ∨ m = 12 := by omega
  rcases h with rfl | rfl | rfl | rfl | rfl | rfl | rfl | rfl | rfl | rfl | rfl | rfl <;> (rw [Lib.extract_eq]; rfl)
theorem dname3 (k : Int) : (Pm.dayName (k % 7).toNat).length = 3 := dayName_len _
theorem mname3 : ∀ i, i < 12 → (Pm.monthName i).length = 3 := by decide

set_option maxRecDepth 100000 in
set_option maxHeartbeats 1600000 in
theorem rasctime_any (ms : Int) (w : World) (ht : Tab w) :
    Calls Tryz.prog 33 #[.int .i64 ms] w (StrPost (Pm.asctime ms) w) := by
  unfold StrPost
  have his := Lib.hid (ris_any ms w)
  cases hv : Pm.isTime ms with
  | false =>
    rw [asctime_no hv]
    rw [hv] at his
    go_enter Tryz.func33, Tryz.ntmps33
    go_wp2_with (go_at_call 50; refine (his.out).mono ?_; rintro e w' ⟨rfl, rfl⟩)
    go_ret
    exact ⟨rfl, Below.refl _ _⟩
  | true =>
    rw [hv] at his
    have h0 : 0 ≤ ms ∧ ms ≤ 70368744177664 := by unfold Pm.isTime Pm.maxTime at hv; simpa using hv
    have hciv := Lib.hid (rcivil_any ms h0.1 h0.2 w)
    unfold CivPost at hciv
    have HA := Lib.hid (fun y m d (h : Pm.Civ (ms / Pm.dayMs) y m d) => asctime_eq hv h)
    obtain ⟨h00, h01⟩ := h0
    have q3 := Lib.hid (fun w => rclock_any ms h00 h01 w)
    have b1 : 0 ≤ ms / 86400000 % 7 := by omega
    have b2 : ms / 86400000 % 7 ≤ 6 := by omega
    clear hv
    go_enter Tryz.func33, Tryz.ntmps33
    go_upto_region 5 with (first
      | (go_at_call 50; refine (his.out).mono ?_; rintro e w' ⟨rfl, rfl⟩)
      | (go_at_call 51; refine (hciv.out).mono ?_; rintro e w' ⟨y, m, d, hC, rfl, rfl⟩))
    obtain ⟨c1, c2, c3, c4, c5, c6, c7⟩ := id hC
    have hbd := (daysOf_bd y m).2
    have q1 := Lib.hid (two_int d d (by omega) (by omega) (by omega) w)
    have q2 := Lib.hid (fun w => four_any y.toNat (by omega) w)
    rw [show ((y.toNat : Nat) : Int) = y by omega] at q2
    have HF := Lib.hid (HA.out y m d hC)
    have z1 := padded2 d 48 (by omega) (by omega)
    have HP : Hid (d < 10 → (⟨#[32]⟩ ++ (⟨(Pm.padded d 2 48).toArray⟩ : ByteArray).extract 1 2 : ByteArray) = ⟨(Pm.padded d 2 32).toArray⟩) := Lib.hid fun h => by
      obtain ⟨k, rfl⟩ : ∃ k : Nat, d = k := ⟨d.toNat, by omega⟩
      rw [Pm.pad2 k (by omega), Pm.padD k (by omega), if_pos (by omega), Lib.extract_eq]
      unfold Pm.p2
      rw [show k % 10 = k by omega]
      rfl
    have HQ : Hid (¬ d < 10 → Pm.padded d 2 48 = Pm.padded d 2 32) := Lib.hid fun h => by
      obtain ⟨k, rfl⟩ : ∃ k : Nat, d = k := ⟨d.toNat, by omega⟩
      rw [Pm.pad2 k (by omega), Pm.padD k (by omega), if_neg (by omega)]
    unfold StrPost at q1 q2 q3
    unfold Pm.ascOf at HF
    have z2 := padded2 d 32 (by omega) (by omega)
    have z3 := clock_len ms
    have hwd : Pm.weekday ms = Pm.dayName ((ms / 86400000 % 7 + 3) % 7).toNat := by unfold Pm.weekday Pm.dayMs; rw [show (ms / 86400000 + 3) % 7 = (ms / 86400000 % 7 + 3) % 7 by omega]
    rw [hwd] at HF
    have hp4 : Pm.padded y 4 48 = Pm.p4 y.toNat := by
      rw [← Pm.pad4 y.toNat (by omega) (by omega), show ((y.toNat : Nat) : Int) = y by omega]
    rw [hp4] at HF
    have z4 : (Pm.p4 y.toNat).length = 4 := rfl
    clear c7 hC HA hciv his hwd hp4
    generalize ms / 86400000 % 7 = W at *
    have D1 := days_at W b1 b2
    have M1 := months_at m c3 c4
    have z5 := dname3 (W + 3)
    have z6 := mname3 (m - 1).toNat (by omega)
    unfold daysS at D1
    unfold monthsS at M1
    have e1 : IntKind.i64.wrap (3 * W) = 3 * W := by rw [IntWalk.i64_in _ (by omega)]
    have e2 : IntKind.i64.wrap (3 * W + 3) = 3 * W + 3 := by rw [IntWalk.i64_in _ (by omega)]
    have e3 : IntKind.i64.wrap (3 * m) = 3 * m := by rw [IntWalk.i64_in _ (by omega)]
    have e4 : IntKind.i64.wrap (3 * m - 3) = 3 * m - 3 := by rw [IntWalk.i64_in _ (by omega)]
    have f1 : (0 : Int) ≤ 3 * W := by omega
    have f2 : 3 * W ≤ 3 * W + 3 := by omega
    have f3 : 3 * W + 3 ≤ 21 := by omega
    have f4 : (0 : Int) ≤ 3 * m - 3 := by omega
    have f5 : 3 * m - 3 ≤ 3 * m := by omega
    have f6 : 3 * m ≤ 36 := by omega
    have f7 : 3 ≤ 3 * m := by omega
    have M2 := M1
    rw [show (3 * m - 3).toNat = (3 * m).toNat - 3 by omega] at M2
    generalize Pm.dayName ((W + 3) % 7).toNat = Dn at *
    generalize Pm.monthName (m - 1).toNat = Mn at *
    generalize Pm.p4 y.toNat = Y at *
    generalize Pm.padded d 2 48 = R at *
    generalize Pm.padded d 2 32 = R2 at *
    generalize Pm.clock ms = Cl at *
    by_cases hd : d < 10
    · have HPd := HP.out hd
      clear HQ HP
      go_upto_region 8 with (go_at_call 52; refine (q1.out).mono ?_; rintro e w1 ⟨rfl, hb1⟩)
      have hb0 : Below w.heap.size w w1.drew := hb1.trans (below_drewN (Below.refl _ _) 1)
      go_region_held3 (fun _ => True) (trivial)
        (first
          | (have _x := hb2; go_at_call 54; refine (q2.out _).mono ?_; rintro e w3 ⟨rfl, hb⟩; have hb3 := hb2.trans (hb.mono hb2.size); clear hb)
          | (go_at_call 53; refine (q3.out _).mono ?_; rintro e w2 ⟨rfl, hb⟩; have hb2 := hb0.trans (hb.mono hb0.size); clear hb))
      go_wp2
      go_ret
      refine ⟨ret_str ?_, hb3⟩
      rw [HF.out]
      apply ByteArray.ext; simp
    · have HQd := HQ.out hd
      clear HQ HP
      subst HQd
      go_upto_region 8 with (go_at_call 52; refine (q1.out).mono ?_; rintro e w1 ⟨rfl, hb1⟩)
      have hb0 : Below w.heap.size w w1.drew := hb1.trans (below_drewN (Below.refl _ _) 1)
      go_region_held3 (fun _ => True) (trivial)
        (first
          | (have _x := hb2; go_at_call 54; refine (q2.out _).mono ?_; rintro e w3 ⟨rfl, hb⟩; have hb3 := hb2.trans (hb.mono hb2.size); clear hb)
          | (go_at_call 53; refine (q3.out _).mono ?_; rintro e w2 ⟨rfl, hb⟩; have hb2 := hb0.trans (hb.mono hb0.size); clear hb))
      go_wp2
      go_ret
      refine ⟨ret_str ?_, hb3⟩
      rw [HF.out]
      apply ByteArray.ext; simp
end Go.Proofs.YtbhhaehdoiaihaaGreatDoor
