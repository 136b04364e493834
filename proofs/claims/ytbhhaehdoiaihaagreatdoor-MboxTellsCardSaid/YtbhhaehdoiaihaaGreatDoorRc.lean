/- The walks of missiveref11.two, four, clock, Asctime. -/
import Derived.Test.YtbhhaehdoiaihaaGreatDoorRb
import Derived.Test.YtbhhaehdoiaihaaGreatDoorQa
import Derived.Laws.IdiomStrings
namespace Go.Proofs.YtbhhaehdoiaihaaGreatDoor
open Go.RowKit

theorem dig_back (k : Nat) (h : k < 10) : ((UInt8.ofNat (48 + k)).toNat : Int) = 48 + k := by
  have : (UInt8.ofNat (48 + k)).toNat = 48 + k := by simp [UInt8.toNat_ofNat]; omega
  rw [this]; omega
set_option maxRecDepth 100000 in
theorem two_any (n : Nat) (h1 : n ≤ 10000) (w : World) :
    Calls Tryz.prog 52 #[.int .i64 n] w (StrPost (Pm.p2 (n % 100)) w) := by
  unfold StrPost
  have hcv := run_convert_bytes_back (P := Tryz.prog) (w.alloc (.cells #[.int .u8 (48 + (n : Int) / 10 % 10), .int .u8 (48 + (n : Int) % 10)] 5)) 52 9 5 ⟨w.heap.size, 0, none⟩ 2 (Pm.p2 (n % 100)) Tryz.underlying52 Tryz.underlying5 Tryz.underlying9 (by
    intro j hj
    have hj2 : j = 0 ∨ j = 1 := by simp [Pm.p2] at hj; omega
    rcases hj2 with rfl | rfl
    · have e : ((Pm.p2 (n % 100))[0].toNat : Int) = 48 + (n : Int) / 10 % 10 := by
        show ((UInt8.ofNat (48 + n % 100 / 10)).toNat : Int) = _
        rw [dig_back _ (by omega)]; omega
      rw [e]
      simp [Addr.add]
    · have e : ((Pm.p2 (n % 100))[1].toNat : Int) = 48 + (n : Int) % 10 := by
        show ((UInt8.ofNat (48 + n % 100 % 10)).toNat : Int) = _
        rw [dig_back _ (by omega)]; omega
      rw [e]
      simp [Addr.add])
  have hl : (Pm.p2 (n % 100)).length = 2 := rfl
  rw [hl] at hcv
  have hb : Below w.heap.size w (w.alloc (.cells #[.int .u8 (48 + (n : Int) / 10 % 10), .int .u8 (48 + (n : Int) % 10)] 5)) := (Below.refl _ _).alloc (Nat.le_refl _) _
  generalize Pm.p2 (n % 100) = R at *
  go_enter Tryz.func52, Tryz.ntmps52
  go_wp2
  go_ret
  exact ⟨rfl, hb⟩
theorem p4_split (n : Nat) (h : n < 10000) : Pm.p2 (n / 100 % 100) ++ Pm.p2 (n % 100) = Pm.p4 n := by
  unfold Pm.p2 Pm.p4
  rw [show n / 100 % 100 / 10 = n / 1000 by omega, show n / 100 % 100 % 10 = n / 100 % 10 by omega, show n % 100 / 10 = n / 10 % 10 by omega, show n % 100 % 10 = n % 10 by omega]
  rfl
set_option maxRecDepth 100000 in
theorem four_any (n : Nat) (h1 : n < 10000) (w : World) :
    Calls Tryz.prog 54 #[.int .i64 n] w (StrPost (Pm.p4 n) w) := by
  unfold StrPost
  have q1 := Lib.hid (two_any (n / 100) (by omega) w)
  have q2 := Lib.hid (fun w => two_any n (by omega) w)
  rw [← p4_split n h1]
  unfold StrPost at q1 q2
  have z1 : (Pm.p2 (n / 100 % 100)).length = 2 := rfl
  have z2 : (Pm.p2 (n % 100)).length = 2 := rfl
  have e1 : ((n / 100 : Nat) : Int) = (n : Int) / 100 := by omega
  rw [e1] at q1
  generalize Pm.p2 (n / 100 % 100) = X at *
  generalize Pm.p2 (n % 100) = Y at *
  go_enter Tryz.func54, Tryz.ntmps54
  go_wp2_with (first
    | (have _x := hb1; go_at_call 52; refine (q2.out _).mono ?_; rintro e w2 ⟨rfl, hb⟩; have hb2 := hb1.trans (hb.mono hb1.size); clear hb)
    | (go_at_call 52; refine (q1.out).mono ?_; rintro e w1 ⟨rfl, hb1⟩))
  go_ret
  exact ⟨ret_str (by apply ByteArray.ext; simp), hb2⟩
theorem two_int (n m : Int) (h0 : 0 ≤ n) (h1 : n ≤ 10000) (hm : m = n % 100) (w : World) : Calls Tryz.prog 52 #[.int .i64 n] w (StrPost (Pm.padded m 2 48) w) := by
  obtain ⟨k, rfl⟩ : ∃ k : Nat, n = k := ⟨n.toNat, by omega⟩
  have h := two_any k (by omega) w
  rw [← Pm.pad2 (k % 100) (by omega)] at h
  rw [hm, show (k : Int) % 100 = ((k % 100 : Nat) : Int) by omega]
  exact h
set_option maxRecDepth 100000 in
set_option maxHeartbeats 1600000 in
theorem rclock_any (ms : Int) (h0 : 0 ≤ ms) (h1 : ms ≤ 70368744177664) (w : World) :
    Calls Tryz.prog 53 #[.int .i64 ms] w (StrPost (Pm.clock ms) w) := by
  unfold StrPost Pm.clock
  have q1 := Lib.hid (fun w => two_int (ms / 1000 % 86400 / 3600) (ms / 3600000 % 24) (by omega) (by omega) (by omega) w)
  have q2 := Lib.hid (fun w => two_int (ms / 1000 % 86400 / 60 % 60) (ms / 60000 % 60) (by omega) (by omega) (by omega) w)
  have q3 := Lib.hid (fun w => two_int (ms / 1000 % 60) (ms / 1000 % 60) (by omega) (by omega) (by omega) w)
  have z1 := padded2 (ms / 3600000 % 24) 48 (by omega) (by omega)
  have z2 := padded2 (ms / 60000 % 60) 48 (by omega) (by omega)
  have z3 := padded2 (ms / 1000 % 60) 48 (by omega) (by omega)
  unfold StrPost at q1 q2 q3
  generalize Pm.padded (ms / 3600000 % 24) 2 48 = X at *
  generalize Pm.padded (ms / 60000 % 60) 2 48 = Y at *
  generalize Pm.padded (ms / 1000 % 60) 2 48 = Z at *
  go_enter Tryz.func53, Tryz.ntmps53
  go_wp2_with (first
    | (have _x := hb2; go_at_call 52; refine (q3.out _).mono ?_; rintro e w3 ⟨rfl, hb⟩; have hb3 := hb2.trans (hb.mono hb2.size); clear hb)
    | (have _x := hb1; go_at_call 52; refine (q2.out _).mono ?_; rintro e w2 ⟨rfl, hb⟩; have hb2 := hb1.trans (hb.mono hb1.size); clear hb)
    | (go_at_call 52; refine (q1.out _).mono ?_; rintro e w1 ⟨rfl, hb1⟩))
  all_goals first | (exfalso; omega) | skip
  go_ret
  exact ⟨ret_str (by apply ByteArray.ext; simp), hb3⟩
end Go.Proofs.YtbhhaehdoiaihaaGreatDoor
