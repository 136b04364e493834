/- The walks of missiveref11.digits, cut. -/
import Derived.Test.YtbhhaehdoiaihaaGreatDoorRf
namespace Go.Proofs.YtbhhaehdoiaihaaGreatDoor
open Go.RowKit

theorem digits_out (l : Pm.Bs) (lo hi : Int) (h : (l.length : Int) < lo ∨ hi < l.length) : Pm.digits l lo hi = none := by unfold Pm.digits; rw [if_pos h]
theorem digits_in (l : Pm.Bs) (lo hi : Int) (h : ¬ ((l.length : Int) < lo ∨ hi < l.length)) : Pm.digits l lo hi = Pm.number l := by unfold Pm.digits; rw [if_neg h]
set_option maxHeartbeats 1600000 in
theorem rdigits_any (s : ByteArray) (hs : s.size ≤ 1073741824) (lo hi : Int) (hlo : 1 ≤ lo) (hhi : hi ≤ 15) (hlo2 : lo ≤ 15) (w : World) :
    Calls Tryz.prog 71 #[.string s, .int .i64 lo, .int .i64 hi] w fun e w' => e = .returned (.tuple #[.int .i64 ((Pm.digits s.data.toList lo hi).getD 0), .bool (Pm.digits s.data.toList lo hi).isSome]) ∧ w = w' := by
  by_cases h1 : (s.size : Int) < lo
  · rw [digits_out _ _ _ (by rw [← Lib.size_eq]; exact .inl h1)]
    go_enter Tryz.func71, Tryz.ntmps71
    go_wp2
    go_ret2
    exact ⟨rfl, rfl⟩
  by_cases h2 : hi < (s.size : Int)
  · rw [digits_out _ _ _ (by rw [← Lib.size_eq]; exact .inr h2)]
    go_enter Tryz.func71, Tryz.ntmps71
    go_wp2
    go_ret2
    exact ⟨rfl, rfl⟩
  rw [digits_in _ _ _ (by rw [← Lib.size_eq]; omega)]
  have hsz := Lib.hid (Lib.size_eq s)
  go_enter Tryz.func71, Tryz.ntmps71
  go_wp2
  go_loop [8, 9] (fun n i => ∃ k : Nat, k ≤ s.size ∧ i = .int .i64 k ∧ n = .int .i64 (val (s.data.toList.take k)) ∧ (s.data.toList.take k).all dig = true) (fun _ i => s.size - (intOf i).toNat)
  case atStart => exact ⟨0, by omega, rfl, by simp [val], by simp⟩
  case round =>
    obtain ⟨k, hk, rfl, rfl, hd⟩ := hrel
    have HD := Lib.hid hd
    clear hd
    by_cases hlt : k < s.size
    · have hkl : k < s.data.toList.length := by rw [← hsz.out]; exact hlt
      obtain ⟨q1, q2⟩ := val_le (s.data.toList.take k) (by rw [List.length_take]; omega) HD.out
      by_cases hc : 48 ≤ (s[k].toNat : Int) ∧ (s[k].toNat : Int) ≤ 57
      · obtain ⟨c1, c2⟩ := hc
        have hsn : Hid (val (s.data.toList.take (k + 1)) = 10 * val (s.data.toList.take k) + ((s[k].toNat : Int) - 48) ∧ (s.data.toList.take (k + 1)).all dig = true) := by
          rw [List.take_succ_eq_append_getElem hkl]
          refine ⟨val_snoc _ _, ?_⟩
          rw [List.all_append, HD.out]
          simp
          exact (dig_iff _).2 ⟨c1, c2⟩
        have c1' : 48 ≤ s[k].toNat := by omega
        have c2' : s[k].toNat ≤ 57 := by omega
        go_wp2
        go_round
        case rel => exact ⟨k + 1, by omega, by go_num, by rw [hsn.out.1], hsn.out.2⟩
        case measure => simp [intOf]; omega
      · have hbad : Hid (Pm.number s.data.toList = none) := number_bad _ k hkl (by
          rw [Bool.eq_false_iff]; intro e; exact hc ((dig_iff _).1 e))
        by_cases c1 : (s[k].toNat : Int) < 48
        · have c1' : s[k].toNat < 48 := by omega
          go_wp2
          go_ret2
          exact ⟨by rw [hbad.out]; rfl, rfl⟩
        · have c2 : 57 < (s[k].toNat : Int) := by omega
          have c1' : ¬ s[k].toNat < 48 := by omega
          have c2' : 57 < s[k].toNat := by omega
          go_wp2
          go_ret2
          exact ⟨by rw [hbad.out]; rfl, rfl⟩
    · go_wp2
      go_ret2
      have hka : k = s.size := by omega
      have hd := HD.out
      rw [hka, List.take_of_length_le (by rw [hsz.out]; exact Nat.le_refl _)] at hd
      have hg := number_good s.data.toList (by rw [← hsz.out]; omega) (by rw [← hsz.out]; omega) hd
      refine ⟨?_, rfl⟩
      rw [hg, hka, List.take_of_length_le (by rw [hsz.out]; exact Nat.le_refl _)]
      rfl

theorem splitC_cons (d c : UInt8) (r : Pm.Bs) : Pm.splitC d (c :: r) = if c = d then [] :: Pm.splitC d r else match Pm.splitC d r with
    | [] => [[c]]
    | l :: ls => (c :: l) :: ls := rfl
theorem splitC_no (d : UInt8) (l : Pm.Bs) (h : ∀ x ∈ l, x ≠ d) : Pm.splitC d l = [l] := by
  induction l with
  | nil => rfl
  | cons c l ih => rw [splitC_cons, if_neg (h c (by simp)), ih (fun x hx => h x (by simp [hx]))]
theorem splitC_hit (d : UInt8) (a r : Pm.Bs) (h : ∀ x ∈ a, x ≠ d) : Pm.splitC d (a ++ d :: r) = a :: Pm.splitC d r := by
  induction a with
  | nil => rw [List.nil_append, splitC_cons, if_pos rfl]
  | cons c a ih => rw [List.cons_append, splitC_cons, if_neg (h c (by simp)), ih (fun x hx => h x (by simp [hx]))]
theorem splitC_at (l : Pm.Bs) (f k : Nat) (hk : k < l.length) (hf : f ≤ k) (h : ∀ x ∈ (l.drop f).take (k - f), x ≠ 58) (h58 : l[k] = 58) :
    Pm.splitC 58 (l.drop f) = (l.drop f).take (k - f) :: Pm.splitC 58 (l.drop (k + 1)) := by
  have e : l.drop f = (l.drop f).take (k - f) ++ 58 :: l.drop (k + 1) := by
    conv => lhs; rw [← List.take_append_drop (k - f) (l.drop f), List.drop_drop, show f + (k - f) = k by omega, List.drop_eq_getElem_cons hk, h58]
  conv => lhs; rw [e]
  exact splitC_hit 58 _ _ h
theorem take_more58 (l : Pm.Bs) (f k : Nat) (hk : k < l.length) (hf : f ≤ k) (h : ∀ x ∈ (l.drop f).take (k - f), x ≠ 58) (h58 : l[k] ≠ 58) : ∀ x ∈ (l.drop f).take (k + 1 - f), x ≠ 58 := by
  have hkk : k - f < (l.drop f).length := by rw [List.length_drop]; omega
  rw [show k + 1 - f = (k - f) + 1 by omega, List.take_succ_eq_append_getElem hkk]
  intro x hx
  rcases List.mem_append.1 hx with hx | hx
  · exact h x hx
  · simp at hx; rw [hx]; simpa [show f + (k - f) = k by omega] using h58
theorem split_splitC (l : Pm.Bs) : Lib.split l [58] = Pm.splitC 58 l := by
  unfold Lib.split
  induction l with
  | nil => decide
  | cons c l ih =>
    by_cases hc : c = 58
    · subst hc
      have hix : Lib.index (58 :: l) [58] = 0 := by rw [Lib.index]; simp [List.isPrefixOf]
      rw [Lib.count_cons_eq, splitC_cons, if_pos rfl, ← ih, Nat.add_comm, Lib.splitK, hix]
      rfl
    · have hp : ([58] : List UInt8).isPrefixOf (c :: l) = false := by simp [List.isPrefixOf, Ne.symm hc]
      have hix : Lib.index (c :: l) [58] = if Lib.index l [58] == -1 then -1 else Lib.index l [58] + 1 := by rw [Lib.index, hp]; simp
      rw [Lib.count_cons_ne _ _ _ hc, splitC_cons, if_neg hc, ← ih]
      cases hk : Lib.count l [58] with
      | zero => rfl
      | succ k =>
        have hm : ¬ Lib.index l [58] = -1 := fun e => by rw [Lib.count_miss e] at hk; cases hk
        have hge := Lib.index_ge l [58]
        obtain ⟨j, hj⟩ : ∃ j : Nat, Lib.index l [58] = j := ⟨(Lib.index l [58]).toNat, by omega⟩
        have hb : (Lib.index l [58] == -1) = false := by rw [beq_eq_false_iff_ne]; exact hm
        have hix' : Lib.index (c :: l) [58] = ((j + 1 : Nat) : Int) := by rw [hix, hb, hj]; simp
        have hb' : ((((j + 1 : Nat) : Int)) == -1) = false := by rw [beq_eq_false_iff_ne]; omega
        have hb2 : (((j : Nat) : Int) == -1) = false := by rw [beq_eq_false_iff_ne]; omega
        rw [Lib.splitK, Lib.splitK, hix', hj, hb', hb2]
        simp
end Go.Proofs.YtbhhaehdoiaihaaGreatDoor
