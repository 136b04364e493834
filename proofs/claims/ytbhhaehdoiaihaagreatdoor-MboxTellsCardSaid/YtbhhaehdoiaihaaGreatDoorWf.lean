/- The walks of date.timeOfDay, date.Unasctime and mbox.separator. -/
import Derived.Test.YtbhhaehdoiaihaaGreatDoorWe
namespace Go.Proofs.YtbhhaehdoiaihaaGreatDoor
open Go.RowKit

theorem digits_bd (l : Pm.Bs) (v : Int) (h : Pm.digits l 2 2 = some v) : 0 ≤ v ∧ v ≤ 99 := by
  unfold Pm.digits at h
  split at h
  · cases h
  · unfold Pm.number at h
    split at h
    · cases h
    · split at h
      · next h1 h2 h3 =>
        injection h with h
        subst h
        have := val_bd l.length l rfl h3
        have hl : l.length = 2 := by omega
        rw [hl] at this
        exact ⟨this.1, by have := this.2; unfold val at this; omega⟩
      · cases h
theorem digits4_bd (l : Pm.Bs) (v : Int) (h : Pm.digits l 4 4 = some v) : 0 ≤ v ∧ v ≤ 9999 := by
  unfold Pm.digits at h
  split at h
  · cases h
  · unfold Pm.number at h
    split at h
    · cases h
    · split at h
      · next h1 h2 h3 =>
        injection h with h
        subst h
        have := val_bd l.length l rfl h3
        have hl : l.length = 4 := by omega
        rw [hl] at this
        exact ⟨this.1, by have := this.2; unfold val at this; omega⟩
      · cases h
theorem splitB_size (sep : ByteArray) : ∀ (k : Nat) (s : ByteArray), ∀ x ∈ Lib.splitB sep 0 k s, x.size ≤ s.size := by
  intro k
  induction k with
  | zero => intro s x hx; rw [Lib.splitB_zero] at hx; simp at hx; subst hx; exact Nat.le_refl _
  | succ k ih =>
    intro s x hx
    rcases Lib.indexB_cases s sep with h | ⟨i, h, hi⟩
    · rw [Lib.splitB_miss _ _ _ _ h] at hx; simp at hx; subst hx; exact Nat.le_refl _
    · rw [Lib.splitB_hit _ _ _ _ i h] at hx
      rcases List.mem_cons.1 hx with rfl | hx
      · simp; omega
      · have := ih _ x hx
        simp at this; omega

theorem tod_other (l : Pm.Bs) (h : (Lib.split l [58]).length ≠ 3) : Pm.timeOfDay l = none := by
  unfold Pm.timeOfDay
  split
  · next e => rw [e] at h; simp at h
  · rfl

def TodPost (l : Pm.Bs) (w : World) (e : Ending) (w' : World) : Prop :=
  e = .returned (.tuple #[.int .i64 ((Pm.timeOfDay l).getD 0), .bool (Pm.timeOfDay l).isSome]) ∧ Below w.heap.size w w'

set_option maxHeartbeats 2000000 in
theorem timeOfDay_any (s : ByteArray) (hs : s.size ≤ 4294967280) (w : World) (ht : Tab w) :
    Calls Tryz.prog 69 #[.string s, .int .i64 2, .int .i64 59] w (TodPost s.data.toList w) := by
  obtain ⟨m, hm⟩ := ht.most
  obtain ⟨L, hL⟩ : ∃ L, L = Lib.splitB ⟨#[58]⟩ 0 (Lib.countB s ⟨#[58]⟩) s := ⟨_, rfl⟩
  have hlen : L.length = Lib.countB s ⟨#[58]⟩ + 1 := by rw [hL]; exact Lib.splitB_all _ (by decide) 0 _ s rfl
  have hmod : Lib.split s.data.toList [58] = L.map (·.data.toList) := by
    rw [hL, Lib.splitB_data]; rfl
  have hsz : ∀ x ∈ L, x.size ≤ 4294967280 := fun x hx => by
    rw [hL] at hx; exact Nat.le_trans (splitB_size _ _ _ x hx) hs
  have hsp : Hid (Calls Tryz.prog 96 #[.string s, .string ⟨#[58]⟩] w fun e w' =>
      e = .returned (.slice (some ⟨w.heap.size, 0, none⟩) L.length L.length) ∧ w.alloc (.cells (L.map Value.string).toArray 9) = w') :=
    (Tryz.strings_Split s ⟨#[58]⟩ m w (by omega) hm (by decide)).mono fun e w' ⟨a, b⟩ => ⟨by rw [a, hlen], by rw [b, ← hL]⟩
  have hdg : Hid (∀ (p : ByteArray) (_ : p.size ≤ 4294967280) (W : World), Calls Tryz.prog 67 #[.string p, .int .i64 2, .int .i64 2] W fun e w' =>
      e = .returned (.tuple #[.int .i64 ((Pm.digits p.data.toList 2 2).getD 0), .bool (Pm.digits p.data.toList 2 2).isSome]) ∧ W = w') := fun p hp W => digits_any p 2 2 hp W
  clear ht hm hlen hL
  unfold TodPost
  have hbel : Hid (Below w.heap.size w (w.alloc (.cells (L.map Value.string).toArray 9))) := (Below.refl _ _).alloc (Nat.le_refl _) _
  by_cases h3 : L.length = 3
  case neg =>
    have e : Pm.timeOfDay s.data.toList = none := tod_other _ (by rw [hmod, List.length_map]; exact h3)
    rw [e]
    have h3' : ((L.length : Int) != 3) = true := by rw [bne_iff_ne]; omega
    clear e hmod hdg hsz h3
    go_enter Tryz.func69, Tryz.ntmps69
    go_wp2_with (go_at_call 96; refine (hsp.out).mono ?_; rintro e w' ⟨rfl, rfl⟩)
    all_goals go_ret2
    all_goals exact ⟨rfl, hbel.out⟩
  case pos =>
    match L, h3 with
    | [p0, p1, p2], _ =>
      have z0 := hsz p0 (by simp)
      have z1 := hsz p1 (by simp)
      have z2 := hsz p2 (by simp)
      unfold Pm.timeOfDay
      rw [hmod]
      clear hmod hsz
      simp only [List.map_cons, List.map_nil, List.length_cons, List.length_nil] at hsp hbel ⊢
      cases hx0 : Pm.digits p0.data.toList 2 2 with
      | none =>
        have HX0 := Lib.hid hx0
        clear hx0
        go_enter Tryz.func69, Tryz.ntmps69
        go_wp2_with (first
          | (go_at_call 96; refine (hsp.out).mono ?_; rintro e w' ⟨rfl, rfl⟩)
          | (go_at_call 67; refine (hdg.out _ (by assumption) _).mono ?_; rintro e w' ⟨rfl, rfl⟩; (first | rw [HX0.out])))
        go_ret2
        exact ⟨rfl, hbel.out⟩
      | some hh =>
        obtain ⟨b0, b0'⟩ := digits_bd _ _ hx0
        have HX0 := Lib.hid hx0
        clear hx0
        by_cases g0 : 23 < hh
        · simp only [if_pos g0]
          go_enter Tryz.func69, Tryz.ntmps69
          go_wp2_with (first
            | (go_at_call 96; refine (hsp.out).mono ?_; rintro e w' ⟨rfl, rfl⟩)
            | (go_at_call 67; refine (hdg.out _ (by assumption) _).mono ?_; rintro e w' ⟨rfl, rfl⟩; (first | rw [HX0.out])))
          go_ret2
          exact ⟨rfl, hbel.out⟩
        · simp only [if_neg g0]
          cases hx1 : Pm.digits p1.data.toList 2 2 with
          | none =>
            have HX1 := Lib.hid hx1
            clear hx1
            go_enter Tryz.func69, Tryz.ntmps69
            go_wp2_with (first
              | (go_at_call 96; refine (hsp.out).mono ?_; rintro e w' ⟨rfl, rfl⟩)
              | (go_at_call 67; refine (hdg.out _ (by assumption) _).mono ?_; rintro e w' ⟨rfl, rfl⟩; (first | rw [HX0.out] | rw [HX1.out])))
            go_ret2
            exact ⟨rfl, hbel.out⟩
          | some mm =>
            obtain ⟨b1, b1'⟩ := digits_bd _ _ hx1
            have HX1 := Lib.hid hx1
            clear hx1
            by_cases g1 : 59 < mm
            · simp only [if_pos g1]
              go_enter Tryz.func69, Tryz.ntmps69
              go_wp2_with (first
                | (go_at_call 96; refine (hsp.out).mono ?_; rintro e w' ⟨rfl, rfl⟩)
                | (go_at_call 67; refine (hdg.out _ (by assumption) _).mono ?_; rintro e w' ⟨rfl, rfl⟩; (first | rw [HX0.out] | rw [HX1.out])))
              go_ret2
              exact ⟨rfl, hbel.out⟩
            · simp only [if_neg g1]
              cases hx2 : Pm.digits p2.data.toList 2 2 with
              | none =>
                have HX2 := Lib.hid hx2
                clear hx2
                go_enter Tryz.func69, Tryz.ntmps69
                go_wp2_with (first
                  | (go_at_call 96; refine (hsp.out).mono ?_; rintro e w' ⟨rfl, rfl⟩)
                  | (go_at_call 67; refine (hdg.out _ (by assumption) _).mono ?_; rintro e w' ⟨rfl, rfl⟩; (first | rw [HX0.out] | rw [HX1.out] | rw [HX2.out])))
                go_ret2
                exact ⟨rfl, hbel.out⟩
              | some ss =>
                obtain ⟨b2, b2'⟩ := digits_bd _ _ hx2
                have HX2 := Lib.hid hx2
                clear hx2
                by_cases g2 : 59 < ss
                · simp only [if_pos g2]
                  go_enter Tryz.func69, Tryz.ntmps69
                  go_wp2_with (first
                    | (go_at_call 96; refine (hsp.out).mono ?_; rintro e w' ⟨rfl, rfl⟩)
                    | (go_at_call 67; refine (hdg.out _ (by assumption) _).mono ?_; rintro e w' ⟨rfl, rfl⟩; (first | rw [HX0.out] | rw [HX1.out] | rw [HX2.out])))
                  go_ret2
                  exact ⟨rfl, hbel.out⟩
                · simp only [if_neg g2]
                  go_enter Tryz.func69, Tryz.ntmps69
                  go_wp2_with (first
                    | (go_at_call 96; refine (hsp.out).mono ?_; rintro e w' ⟨rfl, rfl⟩)
                    | (go_at_call 67; refine (hdg.out _ (by assumption) _).mono ?_; rintro e w' ⟨rfl, rfl⟩; (first | rw [HX0.out] | rw [HX1.out] | rw [HX2.out])))
                  go_ret2
                  exact ⟨rfl, hbel.out⟩

end Go.Proofs.YtbhhaehdoiaihaaGreatDoor
