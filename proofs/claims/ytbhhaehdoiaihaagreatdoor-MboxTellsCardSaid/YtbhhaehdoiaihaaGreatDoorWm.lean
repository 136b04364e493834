/- The walk of mbox.Clean. -/
import Derived.Test.YtbhhaehdoiaihaaGreatDoorWl
namespace Go.Proofs.YtbhhaehdoiaihaaGreatDoor
open Go.RowKit

def BoolPost (b : Bool) (w : World) (e : Ending) (w' : World) : Prop := e = .returned (.bool b) ∧ Below w.heap.size w w'
def okc (c : UInt8) : Bool := 33 ≤ c && c ≤ 126
theorem okc_iff (c : UInt8) : okc c = true ↔ (33 ≤ (c.toNat : Int) ∧ (c.toNat : Int) ≤ 126) := by
  unfold okc
  simp only [Bool.and_eq_true, decide_eq_true_eq, UInt8.le_iff_toNat_le]
  have e1 : (33 : UInt8).toNat = 33 := rfl
  have e2 : (126 : UInt8).toNat = 126 := rfl
  rw [e1, e2]; omega
theorem clean_short (S R : Pm.Bs) (D : Int) (h : S.length < 1) : Pm.clean ⟨S, D, R⟩ = false := by
  unfold Pm.clean; simp [show ¬ 1 ≤ S.length by omega]
theorem clean_long (S R : Pm.Bs) (D : Int) (h : 200 < S.length) : Pm.clean ⟨S, D, R⟩ = false := by
  unfold Pm.clean; simp [show ¬ S.length ≤ 200 by omega]
theorem clean_bad (S R : Pm.Bs) (D : Int) (k : Nat) (hk : k < S.length) (h : okc S[k] = false) : Pm.clean ⟨S, D, R⟩ = false := by
  have : S.all okc = false := by
    rw [Bool.eq_false_iff]; intro ha
    have := List.all_eq_true.1 ha S[k] (List.getElem_mem hk)
    rw [h] at this; cases this
  unfold Pm.clean
  show ((_ && S.all okc) && _ && _ && _ && _) = false
  rw [this]; simp
theorem clean_rest (S R : Pm.Bs) (D : Int) (h1 : 1 ≤ S.length) (h2 : S.length ≤ 200) (h : S.all okc = true) :
    Pm.clean ⟨S, D, R⟩ = (!(Pm.asctime D).isEmpty && D.tmod 1000 == 0 && Lib.hasSuffix R [10] && Pm.hasBlank R) := by
  unfold Pm.clean
  show ((_ && S.all okc) && _ && _ && _ && _) = _
  rw [h]; simp [h1, h2]

set_option maxHeartbeats 1600000 in
theorem clean_any (S R : ByteArray) (D : Int) (hs : S.size ≤ 4294967280) (hr : R.size ≤ 4294967280) (w : World) (ht : Tab w) :
    Calls Tryz.prog 11 #[.agg #[.string S, .int .i64 D, .string R]] w (BoolPost (Pm.clean ⟨S.data.toList, D, R.data.toList⟩) w) := by
  unfold BoolPost
  have hbw : Hid (Below w.heap.size w (w.alloc (.cells #[.string S, .int .i64 D, .string R] 30))) := Lib.hid ((Below.refl _ _).alloc (Nat.le_refl _) _)
  have HT := Lib.hid (ht.below hbw.out)
  clear ht
  have hsz := Lib.hid (Lib.size_eq S)
  by_cases h1 : S.size < 1
  · rw [clean_short _ _ _ (by rw [← Lib.size_eq]; omega)]
    have h1' : (S.size : Int) < 1 := by omega
    go_enter Tryz.func11, Tryz.ntmps11
    go_wp2
    go_ret
    exact ⟨rfl, hbw.out⟩
  by_cases h2 : 200 < S.size
  · rw [clean_long _ _ _ (by rw [← Lib.size_eq]; omega)]
    have h2' : 200 < (S.size : Int) := by omega
    have h1' : ¬ (S.size : Int) < 1 := by omega
    go_enter Tryz.func11, Tryz.ntmps11
    go_wp2
    go_ret
    exact ⟨rfl, hbw.out⟩
  have h1' : ¬ (S.size : Int) < 1 := by omega
  have h2' : ¬ 200 < (S.size : Int) := by omega
  have hasc := Lib.hid (asctime_any D _ HT.out)
  have hsuf := Lib.hid (fun w => Tryz.strings_HasSuffix R ⟨#[10]⟩ w)
  have hhb := Lib.hid (fun w => hasBlank_any R hr w)
  have hbad := Lib.hid (clean_bad S.data.toList R.data.toList D)
  have hrest := Lib.hid (clean_rest S.data.toList R.data.toList D (by rw [← Lib.size_eq]; omega) (by rw [← Lib.size_eq]; omega))
  generalize Pm.clean ⟨S.data.toList, D, R.data.toList⟩ = B at *
  clear HT
  go_enter Tryz.func11, Tryz.ntmps11
  go_wp2
  go_loop [3, 17] (fun _ i => ∃ k : Nat, k ≤ S.size ∧ i = .int .i64 k ∧ (S.data.toList.take k).all okc = true) (fun _ i => S.size - (intOf i).toNat)
  case atStart => exact ⟨0, by omega, rfl, by simp⟩
  case round =>
    obtain ⟨k, hk, rfl, hd⟩ := hrel
    have HD := Lib.hid hd
    clear hd
    by_cases hlt : k < S.size
    · have hkl : k < S.data.toList.length := by rw [← hsz.out]; exact hlt
      by_cases hc : 33 ≤ (S[k].toNat : Int) ∧ (S[k].toNat : Int) ≤ 126
      · obtain ⟨c1, c2⟩ := hc
        have hsn : Hid ((S.data.toList.take (k + 1)).all okc = true) := by
          rw [List.take_succ_eq_append_getElem hkl, List.all_append, HD.out]
          simp
          exact (okc_iff _).2 ⟨c1, c2⟩
        have c1' : 33 ≤ S[k].toNat := by omega
        have c2' : S[k].toNat ≤ 126 := by omega
        go_wp2
        go_round
        case rel => exact ⟨k + 1, by omega, by go_num, hsn.out⟩
        case measure => simp [intOf]; omega
      · have hB : Hid (B = false) := hbad.out k hkl (by
          rw [Bool.eq_false_iff]; intro e; exact hc ((okc_iff _).1 e))
        by_cases c1 : (S[k].toNat : Int) < 33
        · have c1' : S[k].toNat < 33 := by omega
          go_wp2
          go_ret
          exact ⟨by rw [hB.out]; rfl, hbw.out⟩
        · have c2 : 126 < (S[k].toNat : Int) := by omega
          have c1' : ¬ S[k].toNat < 33 := by omega
          have c2' : 126 < S[k].toNat := by omega
          go_wp2
          go_ret
          exact ⟨by rw [hB.out]; rfl, hbw.out⟩
    · have hka : k = S.size := by omega
      have hd := HD.out
      rw [hka, List.take_of_length_le (by rw [hsz.out]; exact Nat.le_refl _)] at hd
      have hB := hrest.out hd
      clear hbad hrest HD hd
      unfold StrPost at hasc
      cases ha : Pm.asctime D with
      | nil =>
        rw [ha] at hasc hB
        have hB := Lib.hid hB
        go_wp2_with (first
          | (go_at_call 18; refine (hasc.out).mono ?_; rintro e w2 ⟨rfl, hb⟩))
        go_ret
        exact ⟨by rw [hB.out]; rfl, hbw.out.trans (hb.mono hbw.out.size)⟩
      | cons z zs =>
        rw [ha] at hasc hB
        have hB' : B = ((D.tmod 1000 == 0 && Lib.hasSuffix R.data.toList [10]) && Pm.hasBlank R.data.toList) := hB
        have hB := Lib.hid hB'
        clear hB' ha
        have hsuf := Lib.hid (fun w => hsuf.out w (by omega))
        have hq1 : Hid ((w.alloc (.cells #[.string S, .int .i64 D, .string R] 30)).cell? ⟨w.heap.size, 1, none⟩ = some (.int .i64 D)) := Lib.hid (cells_new w [.string S, .int .i64 D, .string R] 30 1 _ rfl)
        have hq2 : Hid ((w.alloc (.cells #[.string S, .int .i64 D, .string R] 30)).cell? ⟨w.heap.size, 2, none⟩ = some (.string R)) := Lib.hid (cells_new w [.string S, .int .i64 D, .string R] 30 2 _ rfl)
        by_cases hm : D.tmod 1000 = 0
        · cases hsx : Lib.hasSuffix R.data.toList [10] with
          | true =>
            rw [hsx] at hsuf hB
            go_wp2_with (first
              | (go_at_call 18; refine (hasc.out).mono ?_; rintro e w2 ⟨rfl, hb⟩
                 have q1 := (hb.cell (p := ⟨w.heap.size, 1, none⟩) (World.block_lt_of_cell? _ _ hq1.out)).trans hq1.out
                 have q2 := (hb.cell (p := ⟨w.heap.size, 2, none⟩) (World.block_lt_of_cell? _ _ hq2.out)).trans hq2.out)
              | (go_at_call 32; refine (hsuf.out _).mono ?_; rintro e w' ⟨rfl, rfl⟩)
              | (go_at_call 25; refine (hhb.out _).mono ?_; rintro e w' ⟨rfl, rfl⟩))
            go_ret
            exact ⟨ret_bool (by rw [hB.out]; simp [hm]), hbw.out.trans (hb.mono hbw.out.size)⟩
          | false =>
            rw [hsx] at hsuf hB
            go_wp2_with (first
              | (go_at_call 18; refine (hasc.out).mono ?_; rintro e w2 ⟨rfl, hb⟩
                 have q1 := (hb.cell (p := ⟨w.heap.size, 1, none⟩) (World.block_lt_of_cell? _ _ hq1.out)).trans hq1.out
                 have q2 := (hb.cell (p := ⟨w.heap.size, 2, none⟩) (World.block_lt_of_cell? _ _ hq2.out)).trans hq2.out)
              | (go_at_call 32; refine (hsuf.out _).mono ?_; rintro e w' ⟨rfl, rfl⟩)
              | (go_at_call 25; refine (hhb.out _).mono ?_; rintro e w' ⟨rfl, rfl⟩))
            go_ret
            exact ⟨ret_bool (by rw [hB.out]; simp [hm]), hbw.out.trans (hb.mono hbw.out.size)⟩
        · go_wp2_with (first
              | (go_at_call 18; refine (hasc.out).mono ?_; rintro e w2 ⟨rfl, hb⟩
                 have q1 := (hb.cell (p := ⟨w.heap.size, 1, none⟩) (World.block_lt_of_cell? _ _ hq1.out)).trans hq1.out
                 have q2 := (hb.cell (p := ⟨w.heap.size, 2, none⟩) (World.block_lt_of_cell? _ _ hq2.out)).trans hq2.out))
          go_ret
          exact ⟨ret_bool (by rw [hB.out]; simp [hm]), hbw.out.trans (hb.mono hbw.out.size)⟩
end Go.Proofs.YtbhhaehdoiaihaaGreatDoor
