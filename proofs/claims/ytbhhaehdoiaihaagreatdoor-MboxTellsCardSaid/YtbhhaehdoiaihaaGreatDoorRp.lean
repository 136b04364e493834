/- The walk of missiveref16.Clean. -/
import Derived.Test.YtbhhaehdoiaihaaGreatDoorRo
namespace Go.Proofs.YtbhhaehdoiaihaaGreatDoor
open Go.RowKit

theorem clean_asc (S R : Pm.Bs) (D : Int) (h : Pm.asctime D = []) : Pm.clean ⟨S, D, R⟩ = false := by
  unfold Pm.clean; simp [h]
theorem clean_sec (S R : Pm.Bs) (D : Int) (h : D.tmod 1000 ≠ 0) : Pm.clean ⟨S, D, R⟩ = false := by
  unfold Pm.clean; simp [h]
theorem clean_lf (S R : Pm.Bs) (D : Int) (h : Lib.hasSuffix R [10] = false) : Pm.clean ⟨S, D, R⟩ = false := by
  unfold Pm.clean; simp [h]
theorem lf_last (s : ByteArray) (h : 0 < s.size) : Lib.hasSuffix s.data.toList [10] = decide (s[s.size - 1].toNat = 10) := by
  have hl : s.data.toList.length = s.size := (Lib.size_eq s).symm
  rcases snoc_or s.data.toList with e | ⟨L, x, e⟩
  · rw [e] at hl; simp at hl; omega
  · rw [e, Pm.suffix_snoc]
    have hx : s[s.size - 1] = x := by
      have h1 : s.data.toList[s.size - 1]'(by rw [hl]; omega) = x := by
        have h2 : L.length = s.size - 1 := by rw [e] at hl; simp at hl; omega
        simp only [e, ← h2]
        simp
      exact h1
    rw [hx, Bool.eq_iff_iff, beq_iff_eq, decide_eq_true_iff]
    constructor
    · intro q; rw [← q]; rfl
    · intro q; exact ((Pm.u8_eq_iff x 10).2 q).symm

set_option maxRecDepth 100000 in
set_option maxHeartbeats 3200000 in
theorem rclean_any (S R : ByteArray) (D : Int) (hs : S.size ≤ 1000000) (hr : R.size ≤ 1000000) (w : World) (ht : Tab w) :
    Calls Tryz.prog 12 #[.agg #[.string S, .int .i64 D, .string R]] w (BoolPost (Pm.clean ⟨S.data.toList, D, R.data.toList⟩) w) := by
  unfold BoolPost
  have hbw : Hid (Below w.heap.size w (w.alloc (.cells #[.string S, .int .i64 D, .string R] 30))) := Lib.hid ((Below.refl _ _).alloc (Nat.le_refl _) _)
  have HT := Lib.hid (ht.below hbw.out)
  clear ht
  have hsz := Lib.hid (Lib.size_eq S)
  by_cases h1 : S.size < 1
  · rw [clean_short _ _ _ (by rw [← Lib.size_eq]; omega)]
    have h1' : (S.size : Int) < 1 := by omega
    go_enter Tryz.func12, Tryz.ntmps12
    go_wp2
    go_ret
    exact ⟨rfl, hbw.out⟩
  by_cases h2 : 200 < S.size
  · rw [clean_long _ _ _ (by rw [← Lib.size_eq]; omega)]
    have h2' : 200 < (S.size : Int) := by omega
    have h1' : ¬ (S.size : Int) < 1 := by omega
    go_enter Tryz.func12, Tryz.ntmps12
    go_wp2
    go_ret
    exact ⟨rfl, hbw.out⟩
  have h1' : ¬ (S.size : Int) < 1 := by omega
  have h2' : ¬ 200 < (S.size : Int) := by omega
  have hasc := Lib.hid (rasctime_any D _ HT.out)
  have hbad := Lib.hid (clean_bad S.data.toList R.data.toList D)
  have hrest := Lib.hid (clean_rest S.data.toList R.data.toList D (by rw [← Lib.size_eq]; omega) (by rw [← Lib.size_eq]; omega))
  have k3 := Lib.hid (clean_asc S.data.toList R.data.toList D)
  have k4 := Lib.hid (clean_sec S.data.toList R.data.toList D)
  have k5 := Lib.hid (clean_lf S.data.toList R.data.toList D)
  have hhb := Lib.hid (fun w => rblank_any R.data.toList (by rw [← Lib.size_eq]; exact hr) w)
  rw [Lib.mk_data] at hhb
  unfold BoolPost at hhb
  unfold StrPost at hasc
  generalize Pm.clean ⟨S.data.toList, D, R.data.toList⟩ = B at *
  have hq1 : Hid ((w.alloc (.cells #[.string S, .int .i64 D, .string R] 30)).cell? ⟨w.heap.size, 1, none⟩ = some (.int .i64 D)) := Lib.hid (cells_new w [.string S, .int .i64 D, .string R] 30 1 _ rfl)
  have hq2 : Hid ((w.alloc (.cells #[.string S, .int .i64 D, .string R] 30)).cell? ⟨w.heap.size, 2, none⟩ = some (.string R)) := Lib.hid (cells_new w [.string S, .int .i64 D, .string R] 30 2 _ rfl)
  have hq0 : Hid ((w.alloc (.cells #[.string S, .int .i64 D, .string R] 30)).cell? ⟨w.heap.size, 0, none⟩ = some (.string S)) := Lib.hid (cells_new w [.string S, .int .i64 D, .string R] 30 0 _ rfl)
  cases ha : Pm.asctime D with
  | nil =>
    have hB := Lib.hid (k3.out ha)
    rw [ha] at hasc
    clear ha k3 k4 k5
    go_enter Tryz.func12, Tryz.ntmps12
    go_wp2_with (go_at_call 33; refine (hasc.out).mono ?_; rintro e w2 ⟨rfl, hb⟩; have q1 := cell_up hb hq1.out; have q2 := cell_up hb hq2.out; have q0 := cell_up hb hq0.out; have hb2 := hbw.out.trans (hb.mono hbw.out.size); clear hb)
    go_ret
    exact ⟨by rw [hB.out]; rfl, hb2⟩
  | cons z zs =>
    rw [ha] at hasc hrest
    by_cases hm : D.tmod 1000 = 0
    case neg =>
      have hB := Lib.hid (k4.out hm)
      clear ha k3 k4 k5
      go_enter Tryz.func12, Tryz.ntmps12
      go_wp2_with (go_at_call 33; refine (hasc.out).mono ?_; rintro e w2 ⟨rfl, hb⟩; have q1 := cell_up hb hq1.out; have q2 := cell_up hb hq2.out; have q0 := cell_up hb hq0.out; have hb2 := hbw.out.trans (hb.mono hbw.out.size); clear hb)
      go_ret
      exact ⟨by rw [hB.out]; rfl, hb2⟩
    by_cases hrz : R.size = 0
    · have hRe : R = ByteArray.empty := by
        obtain ⟨⟨l⟩⟩ := R
        have : l = [] := List.eq_nil_of_length_eq_zero (by simpa [ByteArray.size] using hrz)
        subst this; rfl
      subst hRe
      have hB := Lib.hid (k5.out rfl)
      clear ha k3 k4 k5
      go_enter Tryz.func12, Tryz.ntmps12
      go_wp2_with (go_at_call 33; refine (hasc.out).mono ?_; rintro e w2 ⟨rfl, hb⟩; have q1 := cell_up hb hq1.out; have q2 := cell_up hb hq2.out; have q0 := cell_up hb hq0.out; have hb2 := hbw.out.trans (hb.mono hbw.out.size); clear hb)
      go_ret
      exact ⟨by rw [hB.out]; rfl, hb2⟩
    have hlf := lf_last R (by omega)
    have hr0 : 0 < R.size := by omega
    have hre : R.toList.isEmpty = false := by
      rw [Lib.toList_data, List.isEmpty_eq_false_iff]
      intro e
      exact hrz (by rw [Lib.size_eq, e]; rfl)
    by_cases hlast : R[R.size - 1].toNat = 10
    case neg =>
      have hB := Lib.hid (k5.out (by rw [hlf, decide_eq_false hlast]))
      have hl' : ((R[R.size - 1].toNat : Int) != 10) = true := by rw [bne_iff_ne]; omega
      clear ha k3 k4 k5 hlf
      go_enter Tryz.func12, Tryz.ntmps12
      go_wp2_with (go_at_call 33; refine (hasc.out).mono ?_; rintro e w2 ⟨rfl, hb⟩; have q1 := cell_up hb hq1.out; have q2 := cell_up hb hq2.out; have q0 := cell_up hb hq0.out; have hb2 := hbw.out.trans (hb.mono hbw.out.size); clear hb)
      go_ret
      exact ⟨by rw [hB.out]; rfl, hb2⟩
    have hl' : ((R[R.size - 1].toNat : Int) != 10) = false := by rw [bne_eq_false_iff_eq]; omega
    rw [hlf, decide_eq_true hlast] at hrest
    have hlast' : (R[R.size - 1].toNat : Int) = 10 := by omega
    clear ha k3 k4 k5 hlf
    go_enter Tryz.func12, Tryz.ntmps12
    go_wp2_with (go_at_call 33; refine (hasc.out).mono ?_; rintro e w2 ⟨rfl, hb⟩; have q1 := cell_up hb hq1.out; have q2 := cell_up hb hq2.out; have q0 := cell_up hb hq0.out; have hb2 := hbw.out.trans (hb.mono hbw.out.size); clear hb)
    go_loop [3] (fun i => ∃ k : Nat, k ≤ S.size ∧ i = .int .i64 k ∧ (S.data.toList.take k).all okc = true) (fun i => S.size - (intOf i).toNat)
    case atStart => exact ⟨0, by omega, rfl, by simp⟩
    case round =>
      obtain ⟨k, hk, rfl, hd⟩ := hrel
      have HD := Lib.hid hd
      clear hd
      by_cases hlt : k < S.size
      · have hkl : k < S.data.toList.length := by rw [← hsz.out]; exact hlt
        have hlt' : (k : Int) < (S.size : Int) := by omega
        by_cases hc : 33 ≤ (S[k].toNat : Int) ∧ (S[k].toNat : Int) ≤ 126
        · obtain ⟨c1, c2⟩ := hc
          have hsn : Hid ((S.data.toList.take (k + 1)).all okc = true) := by
            rw [List.take_succ_eq_append_getElem hkl, List.all_append, HD.out]
            simp
            exact (okc_iff _).2 ⟨c1, c2⟩
          have c1' : 33 ≤ S[k].toNat := by omega
          have c2' : S[k].toNat ≤ 126 := by omega
          go_wp2
          go_round
          case rel => exact ⟨k + 1, by omega, by go_num, hsn.out⟩
          case measure => simp [intOf]; omega
        · have hB : Hid (B = false) := hbad.out k hkl (by
            rw [Bool.eq_false_iff]; intro e; exact hc ((okc_iff _).1 e))
          by_cases c1 : (S[k].toNat : Int) < 33
          · have c1' : S[k].toNat < 33 := by omega
            go_wp2
            go_ret
            exact ⟨by rw [hB.out]; rfl, hb2⟩
          · have c2 : 126 < (S[k].toNat : Int) := by omega
            have c1' : ¬ S[k].toNat < 33 := by omega
            have c2' : 126 < S[k].toNat := by omega
            go_wp2
            go_ret
            exact ⟨by rw [hB.out]; rfl, hb2⟩
      · have hka : k = S.size := by omega
        have hd := HD.out
        rw [hka, List.take_of_length_le (by rw [hsz.out]; exact Nat.le_refl _)] at hd
        have hlt' : ¬ (k : Int) < (S.size : Int) := by omega
        have hB := Lib.hid (hrest.out hd)
        clear hbad hrest HD hd
        go_wp2_with (go_at_call 31; refine (hhb.out _).mono ?_; rintro e w3 ⟨rfl, hb⟩)
        go_ret
        exact ⟨ret_bool (by rw [hB.out]; simp [hm]), hb2.trans (hb.mono hb2.size)⟩
end Go.Proofs.YtbhhaehdoiaihaaGreatDoor
