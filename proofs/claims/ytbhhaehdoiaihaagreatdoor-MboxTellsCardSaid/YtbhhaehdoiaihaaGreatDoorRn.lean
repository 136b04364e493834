/- The walks of missiveref16.marks, blank. -/
import Derived.Test.YtbhhaehdoiaihaaGreatDoorRm
import Derived.Test.YtbhhaehdoiaihaaGreatDoorZi
namespace Go.Proofs.YtbhhaehdoiaihaaGreatDoor
open Go.RowKit

def gts (l : Pm.Bs) : Nat := (l.takeWhile (· == 62)).length
def marksI (l : Pm.Bs) : Int := if Pm.marked l then (gts l : Int) else -1
theorem gts_cons (r : Pm.Bs) : gts (62 :: r) = gts r + 1 := by unfold gts; simp
theorem gts_other (c : UInt8) (r : Pm.Bs) (h : c ≠ 62) : gts (c :: r) = 0 := by unfold gts; simp [h]
theorem marked_from (l : Pm.Bs) (h : ∀ c r, l = c :: r → c ≠ 62) : Pm.marked l = Lib.hasPrefix l Pm.fromB := by
  unfold Pm.marked Lib.trimLeftB
  cases l with
  | nil => rfl
  | cons c r =>
    have := h c r rfl
    rw [List.dropWhile_cons_of_neg (by simp [this])]
theorem marks_bare (l : Pm.Bs) : marksI l = 0 ↔ Pm.bare l = true := by
  constructor
  · intro h
    unfold marksI at h
    split at h
    · next hm =>
      have hg : gts l = 0 := by omega
      rw [marked_from l (by
        rintro c r rfl e
        subst e
        rw [gts_cons] at hg; omega)] at hm
      exact hm
    · omega
  · intro h
    have hm := Pm.bare_marked l h
    unfold marksI
    rw [if_pos hm]
    unfold Pm.bare Lib.hasPrefix at h
    rw [List.isPrefixOf_iff_prefix] at h
    obtain ⟨r, rfl⟩ := h
    rfl
theorem marks_marked (l : Pm.Bs) : 0 ≤ marksI l ↔ Pm.marked l = true := by
  unfold marksI
  split
  · next h => simp [h]
  · next h => simp [h]
theorem unmark_marks (l : Pm.Bs) : Pm.unmark l = if 0 < marksI l then l.drop 1 else l := by
  unfold Pm.unmark
  cases l with
  | nil => simp [marksI, Pm.marked, Lib.trimLeftB, Lib.hasPrefix, Pm.fromB, List.isPrefixOf]
  | cons c r =>
    dsimp only
    by_cases hc : c = 62
    · subst hc
      unfold marksI
      rw [gts_cons]
      cases hm : Pm.marked (62 :: r) with
      | true => rw [if_pos ⟨rfl, rfl⟩, if_pos rfl, if_pos (by omega)]; rfl
      | false =>
        have e1 : ¬ ((62 : UInt8) = 62 ∧ false = true) := by simp
        have e2 : ¬ (0 : Int) < (if false = true then ((gts r + 1 : Nat) : Int) else -1) := by simp
        rw [if_neg e1, if_neg e2]
    · rw [if_neg (fun q => hc q.1), if_neg]
      unfold marksI
      rw [gts_other c r hc]
      split <;> omega
theorem from_test (s : ByteArray) (k : Nat) (_h : k + 5 ≤ s.size) : ((s.extract k (k + 5)).toList == [70, 114, 111, 109, 32]) = Lib.hasPrefix (s.data.toList.drop k) Pm.fromB := by
  rw [Lib.toList_data, Lib.extract_eq]
  show ((s.data.toList.drop k).take (k + 5 - k) == Pm.fromB) = _
  unfold Lib.hasPrefix
  rw [Bool.eq_iff_iff, beq_iff_eq, List.isPrefixOf_iff_prefix, List.prefix_iff_eq_take, show k + 5 - k = Pm.fromB.length by unfold Pm.fromB; simp]
  exact eq_comm

set_option maxRecDepth 100000 in
set_option maxHeartbeats 1600000 in
theorem marks_any (s : ByteArray) (hs : s.size ≤ 1000000) (w : World) :
    Calls Tryz.prog 28 #[.string s] w fun e w' => e = .returned (.int .i64 (marksI s.data.toList)) ∧ w = w' := by
  have hsz := Lib.hid (Lib.size_eq s)
  go_enter Tryz.func28, Tryz.ntmps28
  go_wp2
  go_loop [3] (fun i => ∃ k : Nat, k ≤ s.size ∧ i = .int .i64 k ∧ Pm.marked s.data.toList = Pm.marked (s.data.toList.drop k) ∧ gts s.data.toList = k + gts (s.data.toList.drop k)) (fun i => s.size - (intOf i).toNat)
  case atStart => exact ⟨0, by omega, rfl, by simp, by simp⟩
  case round =>
    obtain ⟨k, hk, rfl, hm, hg⟩ := hrel
    have HM := Lib.hid hm
    have HG := Lib.hid hg
    clear hm hg
    by_cases hgo : ∃ h : k < s.size, s[k].toNat = 62
    · obtain ⟨hlt, hc⟩ := hgo
      have hlt' : (k : Int) < (s.size : Int) := by omega
      have hc' : (s[k].toNat : Int) = 62 := by omega
      have hb' : ((s[k].toNat : Int) == 62) = true := by rw [beq_iff_eq]; exact hc'
      have hkl : k < s.data.toList.length := by rw [← hsz.out]; exact hlt
      have e62 : s.data.toList[k] = 62 := by rw [Pm.u8_eq_iff]; exact hc
      have hd : Hid (s.data.toList.drop k = 62 :: s.data.toList.drop (k + 1)) := Lib.hid (by rw [List.drop_eq_getElem_cons hkl, e62])
      clear e62
      go_wp2
      go_round
      case rel => exact ⟨k + 1, by omega, by go_num, by rw [HM.out, hd.out, Pm.marked_cons], by rw [HG.out, hd.out, gts_cons]; omega⟩
      case measure => simp [intOf]; omega
    · have hfr : Pm.marked (s.data.toList.drop k) = Lib.hasPrefix (s.data.toList.drop k) Pm.fromB ∧ gts (s.data.toList.drop k) = 0 := by
        by_cases hlt : k < s.size
        · have hkl : k < s.data.toList.length := by rw [← hsz.out]; exact hlt
          have hne : s.data.toList[k] ≠ 62 := by intro e; rw [Pm.u8_eq_iff] at e; exact hgo ⟨hlt, e⟩
          rw [List.drop_eq_getElem_cons hkl]
          exact ⟨marked_from _ (by rintro c r e; injection e with e _; rw [← e]; exact hne), gts_other _ _ hne⟩
        · have : s.data.toList.drop k = [] := by rw [List.drop_eq_nil_iff, ← hsz.out]; omega
          rw [this]; exact ⟨rfl, rfl⟩
      have hres : Hid (marksI s.data.toList = if Lib.hasPrefix (s.data.toList.drop k) Pm.fromB = true then (k : Int) else -1) := Lib.hid (by
        unfold marksI
        rw [HM.out, HG.out, hfr.1, hfr.2]
        split <;> simp)
      have hshort : s.size < k + 5 → Lib.hasPrefix (s.data.toList.drop k) Pm.fromB = false := fun h => by
        rw [Bool.eq_false_iff]
        unfold Lib.hasPrefix
        rw [Ne, List.isPrefixOf_iff_prefix]
        intro hp
        have := hp.length_le
        rw [List.length_drop, ← hsz.out] at this
        simp [Pm.fromB] at this
        omega
      have HS := Lib.hid hshort
      clear hfr hshort
      by_cases hlt : k < s.size
      · have hlt' : (k : Int) < (s.size : Int) := by omega
        have hc' : ¬ (s[k].toNat : Int) = 62 := by
          intro e; exact hgo ⟨hlt, by omega⟩
        have hb' : ((s[k].toNat : Int) == 62) = false := by rw [beq_eq_false_iff_ne]; exact hc'
        clear hgo
        by_cases h5 : s.size < k + 5
        · have h5' : (s.size : Int) < (k : Int) + 5 := by omega
          have hr := Lib.hid (hres.out.trans (if_neg (by rw [HS.out h5]; simp)))
          go_wp2
          go_ret
          exact ⟨by rw [hr.out]; rfl, rfl⟩
        have h5' : ¬ (s.size : Int) < (k : Int) + 5 := by omega
        have hft := from_test s k (by omega)
        cases hp : Lib.hasPrefix (s.data.toList.drop k) Pm.fromB with
        | true =>
          rw [hp] at hft
          have hr := Lib.hid (hres.out.trans (if_pos hp))
          clear hp
          go_wp2
          go_ret
          exact ⟨by rw [hr.out]; rfl, rfl⟩
        | false =>
          rw [hp] at hft
          have hr := Lib.hid (hres.out.trans (if_neg (by rw [hp]; simp)))
          clear hp
          go_wp2
          go_ret
          exact ⟨by rw [hr.out]; rfl, rfl⟩
      · have hke : k = s.size := by omega
        subst hke
        clear hgo
        have hr := Lib.hid (hres.out.trans (if_neg (by rw [HS.out (by omega)]; simp)))
        go_wp2
        go_ret
        exact ⟨by rw [hr.out]; rfl, rfl⟩

/-! ### blank -/
theorem any_blank_hit (L : List Pm.Bs) (k : Nat) (h : k < L.length) (hb : Pm.blank L[k] = true) : L.any Pm.blank = true :=
  List.any_eq_true.2 ⟨L[k], List.getElem_mem h, hb⟩
theorem any_blank_miss (L : List Pm.Bs) (h : ∀ j (hj : j < L.length), Pm.blank L[j] = false) : L.any Pm.blank = false := by
  rw [Bool.eq_false_iff]
  intro e
  obtain ⟨x, hx, hb⟩ := List.any_eq_true.1 e
  obtain ⟨j, hj, rfl⟩ := List.getElem_of_mem hx
  rw [h j hj] at hb; cases hb
theorem line_le' (s : Pm.Bs) (j : Nat) (h : j < (Pm.lines s).length) : (Pm.lines s)[j].length ≤ s.length := by
  have h1 : ((Pm.lines s)[j]).Sublist (Pm.lines s).flatten := List.sublist_flatten_of_mem (List.getElem_mem h)
  have h2 := h1.length_le
  rw [Pm.lines_flatten] at h2
  exact h2

set_option maxRecDepth 100000 in
set_option maxHeartbeats 1600000 in
theorem rblank_any (l : Pm.Bs) (hs : l.length ≤ 1000000) (w : World) :
    Calls Tryz.prog 31 #[.string ⟨l.toArray⟩] w (BoolPost (Pm.hasBlank l) w) := by
  have hln := Lib.hid (lines_any ⟨l.toArray⟩ (by rw [Lib.size_eq]; show l.length ≤ _; omega) w)
  unfold LinesPost at hln
  have e0 : (⟨l.toArray⟩ : ByteArray).data.toList = l := rfl
  rw [e0] at hln
  clear e0
  unfold BoolPost Pm.hasBlank
  have hle := Lib.hid (line_le' l)
  have hcnt := lines_count l
  have hc := Lib.hid (fun (x : Pm.Bs) (hx : x.length ≤ 1000000) w => refContent_any x (by omega) w)
  generalize Pm.lines l = L at *
  go_enter Tryz.func31, Tryz.ntmps31
  go_wp2_with (go_at_call 26; refine (hln.out).mono ?_; rintro e w1 ⟨A, c, rfl, ho, hb1⟩; have HO := Lib.hid ho; clear ho)
  go_loop [4] (fun i => ∃ k : Nat, k ≤ L.length ∧ i = .int .i64 k ∧ ∀ j (hj : j < L.length), j < k → Pm.blank L[j] = false) (fun i => L.length - (intOf i).toNat)
  case atStart => exact ⟨0, by omega, rfl, fun j _ h => by omega⟩
  case round =>
    obtain ⟨k, hk, rfl, hd⟩ := hrel
    have HD := Lib.hid hd
    clear hd
    by_cases hlt : k < L.length
    · have hlt' : (k : Int) < (L.length : Int) := by omega
      obtain ⟨g, rfl⟩ := row_some HO.out (by omega)
      have q1 : w1.cell? ⟨g, k, none⟩ = some (.string ⟨L[k].toArray⟩) := by
        have := HO.out.cellAt k (by omega)
        rw [this]; simp [hlt]
      have hck := Lib.hid (hc.out L[k] (Nat.le_trans (hle.out k hlt) hs))
      have hbl : Pm.blank L[k] = (Pm.content L[k]).isEmpty := rfl
      cases hv : (Pm.content L[k]).isEmpty with
      | true =>
        have hr := Lib.hid (any_blank_hit L k hlt (hbl.trans hv))
        clear hbl
        generalize L[k] = x at *
        go_wp2_with (go_at_call 27; refine (hck.out _).mono ?_; rintro e w' ⟨rfl, rfl⟩)
        go_ret
        exact ⟨by rw [hr.out]; rfl, hb1⟩
      | false =>
        have hnb := Lib.hid (hbl.trans hv)
        have hnx : Hid (∀ j (hj : j < L.length), j < k + 1 → Pm.blank L[j] = false) := Lib.hid fun j hj h => by
          by_cases e : j = k
          · subst e; exact hnb.out
          · exact HD.out j hj (by omega)
        clear hbl hnb
        generalize L[k] = x at *
        go_wp2_with (go_at_call 27; refine (hck.out _).mono ?_; rintro e w' ⟨rfl, rfl⟩)
        go_round
        case rel => exact ⟨k + 1, by omega, by go_num, hnx.out⟩
        case measure => simp [intOf]; omega
    · have hke : k = L.length := by omega
      subst hke
      have hr := Lib.hid (any_blank_miss L (fun j hj => HD.out j hj hj))
      go_wp2
      go_ret
      exact ⟨by rw [hr.out]; rfl, hb1⟩
end Go.Proofs.YtbhhaehdoiaihaaGreatDoor
