/- The walk of missiveref16.parts. -/
import Derived.Test.YtbhhaehdoiaihaaGreatDoorRn
namespace Go.Proofs.YtbhhaehdoiaihaaGreatDoor
open Go.RowKit

theorem index_no (d : UInt8) (l : Pm.Bs) (h : ∀ x ∈ l, x ≠ d) : Lib.index l [d] = -1 := by
  induction l with
  | nil => rfl
  | cons c l ih =>
    have hp : ([d] : List UInt8).isPrefixOf (c :: l) = false := by simp [List.isPrefixOf, Ne.symm (h c (by simp))]
    rw [Lib.index, hp, ih (fun x hx => h x (by simp [hx]))]
    rfl
theorem cut_no (l : Pm.Bs) (h : ∀ x ∈ l, x ≠ 32) : Lib.cut l [32] = (l, [], false) := by
  unfold Lib.cut
  rw [index_no 32 l h]; rfl
theorem cut_at (l : Pm.Bs) (k : Nat) (h : ∀ x ∈ l.take k, x ≠ 32) (hk : k = l.length ∨ ∃ hk : k < l.length, l[k] = 32) : (Lib.cut l [32]).1 = l.take k ∧ (Lib.cut l [32]).2.1 = l.drop (k + 1) := by
  rcases hk with rfl | ⟨hk, e⟩
  · rw [List.take_length] at h ⊢
    rw [cut_no l h, List.drop_of_length_le (by omega)]
    exact ⟨rfl, rfl⟩
  · have e1 : l = l.take k ++ 32 :: l.drop (k + 1) := by
      conv => lhs; rw [← List.take_append_drop k l, List.drop_eq_getElem_cons hk, e]
    have hc := Pm.cut_one (l.take k) (l.drop (k + 1)) h
    rw [← e1] at hc
    rw [hc]; exact ⟨rfl, rfl⟩
theorem take_more32 (l : Pm.Bs) (k : Nat) (hk : k < l.length) (h : ∀ x ∈ l.take k, x ≠ 32) (e : l[k] ≠ 32) : ∀ x ∈ l.take (k + 1), x ≠ 32 := by
  rw [List.take_succ_eq_append_getElem hk]
  intro x hx
  rcases List.mem_append.1 hx with hx | hx
  · exact h x hx
  · simp at hx; rw [hx]; exact e
theorem c32 : (32 : UInt8).toNat = 32 := rfl

set_option maxRecDepth 100000 in
set_option maxHeartbeats 3200000 in
theorem parts_any (l : Pm.Bs) (hs : l.length ≤ 1000000) (h5 : 5 ≤ (Pm.content l).length) (w : World) :
    Calls Tryz.prog 29 #[.string ⟨l.toArray⟩] w (SepPost l w) := by
  have hcl : (Pm.content l).length ≤ l.length := content_le l
  have hcon := Lib.hid (refContent_any l (by omega) w)
  unfold SepPost
  have hnone := sep_none l
  have hempty := sep_empty l
  have hsome := sep_some l
  generalize Pm.sepOf l = R at *
  generalize Pm.content l = C at *
  have XU : (⟨C.toArray⟩ : ByteArray).extract 5 C.length = ⟨(C.drop 5).toArray⟩ := drop_take_size' C 5
  obtain ⟨S, hS⟩ : ∃ S : ByteArray, S = ⟨(C.drop 5).toArray⟩ := ⟨_, rfl⟩
  have hSU : S.data.toList = C.drop 5 := by rw [hS]
  have hSz : S.size ≤ 1000000 := by rw [Lib.size_eq, hSU, List.length_drop]; omega
  rw [← hS] at XU
  rw [← hSU] at hnone hempty hsome
  clear hS hSU hcl
  have hsz := Lib.hid (Lib.size_eq S)
  have HN := Lib.hid hnone
  have HE := Lib.hid hempty
  have HSm := Lib.hid hsome
  have h5' : (5 : Int) ≤ (C.length : Int) := by omega
  clear hnone hempty hsome
  go_enter Tryz.func29, Tryz.ntmps29
  go_wp2_with (go_at_call 27; refine (hcon.out).mono ?_; rintro e w' ⟨rfl, rfl⟩)
  go_loop [6] (fun i => ∃ k : Nat, k ≤ S.size ∧ i = .int .i64 k ∧ ∀ x ∈ S.data.toList.take k, x ≠ 32) (fun i => S.size - (intOf i).toNat)
  case atStart => exact ⟨0, by omega, rfl, by simp⟩
  case round =>
    obtain ⟨k, hk, rfl, hd⟩ := hrel
    have HD := Lib.hid hd
    clear hd
    by_cases hgo : ∃ h : k < S.size, S[k].toNat ≠ 32
    · obtain ⟨hlt, hc⟩ := hgo
      have hlt' : (k : Int) < (S.size : Int) := by omega
      have hc' : ¬ (S[k].toNat : Int) = 32 := by omega
      have hb' : ((S[k].toNat : Int) != 32) = true := by rw [bne_iff_ne]; exact hc'
      have hkl : k < S.data.toList.length := by rw [← hsz.out]; exact hlt
      have hnx := Lib.hid (take_more32 S.data.toList k hkl HD.out (by intro e; rw [Pm.u8_eq_iff] at e; exact hc (e.trans c32)))
      go_wp2
      go_round
      case rel => exact ⟨k + 1, by omega, by go_num, hnx.out⟩
      case measure => simp [intOf]; omega
    · have hkk : k = S.data.toList.length ∨ ∃ hk : k < S.data.toList.length, S.data.toList[k] = 32 := by
        by_cases e : k = S.size
        · left; rw [e]; exact hsz.out
        · right
          have hlt : k < S.size := by omega
          refine ⟨by rw [← hsz.out]; exact hlt, ?_⟩
          rw [Pm.u8_eq_iff]
          by_cases e2 : S[k].toNat = 32
          · exact e2
          · exact absurd ⟨hlt, e2⟩ hgo
      have hca := cut_at S.data.toList k HD.out hkk
      have hn := HN.out
      have he := HE.out
      have hso := HSm.out
      rw [hca.1] at he
      rw [hca.1, hca.2] at hn
      simp only [hca.1, hca.2] at hso
      have hx0 : S.extract 0 k = ⟨(S.data.toList.take k).toArray⟩ := by rw [Lib.extract_eq]; simp
      have HX0 := Lib.hid hx0
      clear hca hkk HN HE HSm hx0
      have p1 : ∀ q : Bool, (!q) = true ↔ q = false := by intro q; cases q <;> simp
      by_cases hlt : k < S.size
      · have hlt' : (k : Int) < (S.size : Int) := by omega
        have hc' : (S[k].toNat : Int) = 32 := by
          by_cases e2 : S[k].toNat = 32
          · omega
          · exact absurd ⟨hlt, e2⟩ hgo
        have hb' : ((S[k].toNat : Int) != 32) = false := by rw [bne_eq_false_iff_eq]; exact hc'
        clear hgo
        have mn : min ((k : Int) + 1) (S.size : Int) = (k : Int) + 1 := by omega
        have t1 : ((k : Int) + 1).toNat = k + 1 := by omega
        have xd : S.extract (k + 1) S.size = ⟨(S.data.toList.drop (k + 1)).toArray⟩ := by
          rw [Lib.extract_eq, List.take_of_length_le (by rw [List.length_drop, ← hsz.out]; omega)]
        have hun := Lib.hid (runasc_any ⟨(S.data.toList.drop (k + 1)).toArray⟩ (by rw [Lib.size_eq]; show (S.data.toList.drop (k + 1)).length ≤ _; rw [List.length_drop, ← hsz.out]; omega) w)
        unfold UnPost at hun
        have dl : (⟨(S.data.toList.drop (k + 1)).toArray⟩ : ByteArray).data.toList = S.data.toList.drop (k + 1) := rfl
        rw [dl] at hun
        clear dl
        have k1 : (k : Int) + 1 ≤ (S.size : Int) := by omega
        cases hu : Pm.unasc (S.data.toList.drop (k + 1)) with
        | none =>
          have hR := Lib.hid (hn hu)
          rw [hu] at hun
          clear hn he hso hu
          by_cases k0 : k = 0
          · subst k0
            have mn' : min (1 : Int) (S.size : Int) = 1 := by omega
            have xd' : S.extract 1 S.size = ⟨(S.data.toList.drop 1).toArray⟩ := by simpa using xd
            simp only [Nat.zero_add, List.drop_one] at hun
            go_wp2_with (go_at_call 48; refine (hun.out).mono ?_; rintro e w1 ⟨rfl, hb1⟩)
            go_ret3
            exact ⟨by rw [hR.out]; exact ret_sib rfl rfl rfl, hb1⟩
          · have k0' : ((k : Int) == 0) = false := by rw [beq_eq_false_iff_ne]; omega
            go_wp2_with (go_at_call 48; refine (hun.out).mono ?_; rintro e w1 ⟨rfl, hb1⟩)
            go_ret3
            exact ⟨by rw [hR.out]; exact ret_sib HX0.out rfl rfl, hb1⟩
        | some t =>
          rw [hu] at hun
          by_cases k0 : k = 0
          · have hR := Lib.hid (he (by rw [k0]; rfl))
            subst k0
            have mn' : min (1 : Int) (S.size : Int) = 1 := by omega
            have xd' : S.extract 1 S.size = ⟨(S.data.toList.drop 1).toArray⟩ := by simpa using xd
            simp only [Nat.zero_add, List.drop_one] at hun
            clear hn he hso hu
            go_wp2_with (go_at_call 48; refine (hun.out).mono ?_; rintro e w1 ⟨rfl, hb1⟩)
            go_ret3
            exact ⟨by rw [hR.out]; exact ret_sib rfl rfl rfl, hb1⟩
          · have k0' : ((k : Int) == 0) = false := by rw [beq_eq_false_iff_ne]; omega
            have hR := Lib.hid (hso t hu (by
              intro e
              have h0 : (S.data.toList.take k).length = 0 := by rw [e]; rfl
              rw [List.length_take, ← hsz.out] at h0
              omega))
            clear hn he hso hu
            go_wp2_with (go_at_call 48; refine (hun.out).mono ?_; rintro e w1 ⟨rfl, hb1⟩)
            go_ret3
            exact ⟨by rw [hR.out]; exact ret_sib HX0.out rfl rfl, hb1⟩
      · have hke : k = S.size := by omega
        subst hke
        clear hgo
        have mn : min ((S.size : Int) + 1) (S.size : Int) = (S.size : Int) := by omega
        have xe : S.data.toList.drop (S.size + 1) = [] := by rw [List.drop_eq_nil_iff, ← hsz.out]; omega
        have xd : S.extract S.size S.size = ⟨#[]⟩ := by rw [Lib.extract_eq]; simp
        have hR := Lib.hid (hn (by rw [xe]; rfl))
        have hun := Lib.hid (runasc_any ByteArray.empty (by decide) w)
        unfold UnPost at hun
        have hu : Pm.unasc ByteArray.empty.data.toList = none := rfl
        rw [hu] at hun
        clear hn he hso hu xe
        by_cases k0 : S.size = 0
        · have mn' : min (1 : Int) 0 = 0 := by decide
          have xd' : S.extract 0 0 = ⟨#[]⟩ := by rw [Lib.extract_eq]; simp
          go_wp2_with (go_at_call 48; refine (hun.out).mono ?_; rintro e w1 ⟨rfl, hb1⟩)
          go_ret3
          exact ⟨by rw [hR.out]; exact ret_sib (by rw [k0]; rfl) rfl rfl, hb1⟩
        · have k0' : ((S.size : Int) == 0) = false := by rw [beq_eq_false_iff_ne]; omega
          go_wp2_with (go_at_call 48; refine (hun.out).mono ?_; rintro e w1 ⟨rfl, hb1⟩)
          go_ret3
          exact ⟨by rw [hR.out]; exact ret_sib (by dsimp only; rw [List.take_of_length_le (by rw [← hsz.out]; exact Nat.le_refl _)]) rfl rfl, hb1⟩
end Go.Proofs.YtbhhaehdoiaihaaGreatDoor
