/- The walks of missiveref11.named, digits, cut. -/
import Derived.Test.YtbhhaehdoiaihaaGreatDoorRe
import Derived.Test.YtbhhaehdoiaihaaGreatDoorRd
namespace Go.Proofs.YtbhhaehdoiaihaaGreatDoor
open Go.RowKit

/-- The first of n names that is the string but for the case of its letters. -/
def namedI (tab : Nat → Pm.Bs) (n : Nat) (s : Pm.Bs) : Int := match (List.range n).find? fun j => Pm.same (tab j) s with
  | none => -1
  | some j => j
theorem namedI_hit (tab : Nat → Pm.Bs) (n : Nat) (s : Pm.Bs) (k : Nat) (hk : k < n) (h : Pm.same (tab k) s = true) (hb : ∀ j, j < k → Pm.same (tab j) s = false) : namedI tab n s = k := by
  unfold namedI
  have : (List.range n).find? (fun j => Pm.same (tab j) s) = some k := by
    rw [List.find?_range_eq_some]
    refine ⟨h, by simpa using hk, fun j hj => by simpa using hb j hj⟩
  rw [this]
theorem namedI_miss (tab : Nat → Pm.Bs) (n : Nat) (s : Pm.Bs) (hb : ∀ j, j < n → Pm.same (tab j) s = false) : namedI tab n s = -1 := by
  unfold namedI
  have : (List.range n).find? (fun j => Pm.same (tab j) s) = none := by
    rw [List.find?_eq_none]
    intro j hj
    have := hb j (by simpa using hj)
    simp [this]
  rw [this]

set_option maxRecDepth 100000 in
set_option maxHeartbeats 1600000 in
theorem rnamed_any (L s : ByteArray) (n : Nat) (hn : n ≤ 100) (tab : Nat → Pm.Bs) (hL : L.size = 3 * n) (ht : ∀ i, i < n → L.extract (3 * i) (3 * i + 3) = ⟨(tab i).toArray⟩) (hs : s.size ≤ 1073741824) (w : World) :
    Calls Tryz.prog 73 #[.string L, .string s] w fun e w' => e = .returned (.int .i64 (namedI tab n s.data.toList)) ∧ Below w.heap.size w w' := by
  have hsm := Lib.hid (fun (a : ByteArray) (ha : a.size ≤ 1073741824) w => rSame_any a s ha hs w)
  have HT := Lib.hid ht
  have HL := Lib.hid hL
  clear ht
  go_enter Tryz.func73, Tryz.ntmps73
  go_wp2
  go_loopw [5] (fun i wr => ∃ k : Nat, k ≤ n ∧ i = .int .i64 (3 * (k : Int)) ∧ (∀ j, j < k → Pm.same (tab j) s.data.toList = false) ∧ Below w.heap.size w wr) (fun i _ => 3 * n + 3 - (intOf i).toNat)
  case atStart => exact ⟨0, by omega, rfl, by intro j hj; omega, Below.refl _ _⟩
  case round =>
    obtain ⟨k, hk, rfl, hd, hb⟩ := hrel
    have HD := Lib.hid hd
    have HB := Lib.hid hb
    clear hd hb
    by_cases hlt : k < n
    · have hx := HT.out k hlt
      have c1 : 3 * (k : Int) + 3 ≤ (L.size : Int) := by omega
      have c2 : (0 : Int) ≤ 3 * (k : Int) := by omega
      have c3 : 3 * (k : Int) ≤ 3 * (k : Int) + 3 := by omega
      have t1 : (3 * (k : Int)).toNat = 3 * k := by omega
      have t2 : (3 * (k : Int) + 3).toNat = 3 * k + 3 := by omega
      have d1 : (3 * (k : Int)) / 3 = k := by omega
      have hz : (tab k).length ≤ 1073741824 := by
        have h := congrArg ByteArray.size hx
        rw [Lib.size_eq ⟨(tab k).toArray⟩, ByteArray.size_extract] at h
        have h' : (tab k).length = (⟨(tab k).toArray⟩ : ByteArray).data.toList.length := rfl
        omega
      have hq := Lib.hid (hsm.out ⟨(tab k).toArray⟩ (by rw [Lib.size_eq]; exact hz))
      unfold BoolPost at hq
      have e0 : (⟨(tab k).toArray⟩ : ByteArray).data.toList = tab k := rfl
      rw [e0] at hq
      clear e0 hz
      cases hv : Pm.same (tab k) s.data.toList with
      | true =>
        rw [hv] at hq
        have hr := Lib.hid (namedI_hit tab n s.data.toList k hlt hv HD.out)
        clear hv
        go_wp2_with (go_at_call 99; refine (hq.out _).mono ?_; rintro e w1 ⟨rfl, hb⟩; have hb1 := HB.out.trans (hb.mono HB.out.size); clear hb)
        go_ret
        exact ⟨by rw [hr.out]; rfl, hb1⟩
      | false =>
        rw [hv] at hq
        have HV := Lib.hid hv
        clear hv
        go_wp2_with (go_at_call 99; refine (hq.out _).mono ?_; rintro e w1 ⟨rfl, hb⟩; have hb1 := HB.out.trans (hb.mono HB.out.size); clear hb)
        go_roundw
        case rel =>
          refine ⟨k + 1, by omega, by go_num, fun j hj => ?_, hb1⟩
          by_cases e : j = k
          · rw [e]; exact HV.out
          · exact HD.out j (by omega)
        case measure => simp [intOf]; omega
    · have hka : k = n := by omega
      subst hka
      have hr := Lib.hid (namedI_miss tab k s.data.toList HD.out)
      have hb1 := HB.out
      have c1 : ¬ 3 * (k : Int) + 3 ≤ (L.size : Int) := by omega
      go_wp2
      go_ret
      exact ⟨by rw [hr.out]; rfl, hb1⟩

theorem days_named (s : ByteArray) (hs : s.size ≤ 1073741824) (w : World) :
    Calls Tryz.prog 73 #[.string daysS, .string s] w fun e w' => e = .returned (.int .i64 (namedI (fun j => Pm.dayName ((j + 3) % 7)) 7 s.data.toList)) ∧ Below w.heap.size w w' :=
  rnamed_any daysS s 7 (by omega) _ rfl (fun i hi => by
    have := days_at i (by omega) (by omega)
    rw [show (3 * (i : Int)).toNat = 3 * i by omega, show (3 * (i : Int) + 3).toNat = 3 * i + 3 by omega, show (((i : Int) + 3) % 7).toNat = (i + 3) % 7 by omega] at this
    exact this) hs w
theorem months_named (s : ByteArray) (hs : s.size ≤ 1073741824) (w : World) :
    Calls Tryz.prog 73 #[.string monthsS, .string s] w fun e w' => e = .returned (.int .i64 (namedI Pm.monthName 12 s.data.toList)) ∧ Below w.heap.size w w' :=
  rnamed_any monthsS s 12 (by omega) _ rfl (fun i hi => by
    have := months_at (i + 1) (by omega) (by omega)
    rw [show (3 * ((i : Int) + 1) - 3).toNat = 3 * i by omega, show (3 * ((i : Int) + 1)).toNat = 3 * i + 3 by omega, show ((i : Int) + 1 - 1).toNat = i by omega] at this
    exact this) hs w
theorem monthFrom_named (s : Pm.Bs) (f k : Nat) (hb : ∀ j, j < k → Pm.same (Pm.monthName j) s = false) : Pm.monthFrom s f k = namedI Pm.monthName (k + f) s + 1 := by
  induction f generalizing k with
  | zero => rw [namedI_miss _ _ _ (by simpa using hb)]; rfl
  | succ f ih =>
    unfold Pm.monthFrom
    cases hv : Pm.same (Pm.monthName k) s with
    | true => rw [if_pos rfl, namedI_hit _ _ _ k (by omega) hv hb]
    | false =>
      rw [if_neg (by simp), ih (k + 1) (fun j hj => by
        by_cases e : j = k
        · rw [e]; exact hv
        · exact hb j (by omega)), show k + 1 + f = k + (f + 1) by omega]
theorem monthOf_named (s : Pm.Bs) : Pm.monthOf s = namedI Pm.monthName 12 s + 1 := by
  unfold Pm.monthOf
  rw [monthFrom_named s 12 0 (fun j hj => by omega)]
theorem isDay_named (s : Pm.Bs) : Pm.isDay s = decide (0 ≤ namedI (fun j => Pm.dayName ((j + 3) % 7)) 7 s) := by
  unfold Pm.isDay
  by_cases h : ∃ j, j < 7 ∧ Pm.same (Pm.dayName ((j + 3) % 7)) s = true
  · have h1 : (List.range 7).any (fun i => Pm.same (Pm.dayName i) s) = true := by
      obtain ⟨j, hj, hv⟩ := h
      rw [List.any_eq_true]
      exact ⟨(j + 3) % 7, by simp; omega, hv⟩
    rw [h1]
    symm
    rw [decide_eq_true_iff]
    unfold namedI
    split
    · next e =>
      rw [List.find?_eq_none] at e
      obtain ⟨j, hj, hv⟩ := h
      exact absurd hv (by simpa using e j (by simpa using hj))
    · omega
  · have h2 : ∀ j, j < 7 → Pm.same (Pm.dayName ((j + 3) % 7)) s = false := fun j hj => by
      rw [Bool.eq_false_iff]; intro e; exact h ⟨j, hj, e⟩
    rw [namedI_miss _ _ _ h2]
    rw [Bool.eq_iff_iff, decide_eq_true_iff, List.any_eq_true]
    constructor
    · rintro ⟨i, hi, hv⟩
      have hi' : i < 7 := by simpa using hi
      have := h2 ((i + 4) % 7) (by omega)
      rw [show ((i + 4) % 7 + 3) % 7 = i by omega] at this
      rw [this] at hv; cases hv
    · omega
end Go.Proofs.YtbhhaehdoiaihaaGreatDoor
