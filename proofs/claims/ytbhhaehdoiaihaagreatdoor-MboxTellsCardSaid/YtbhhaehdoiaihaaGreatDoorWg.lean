/- The walks of date.Unasctime and mbox.separator. -/
import Derived.Test.YtbhhaehdoiaihaaGreatDoorWf
namespace Go.Proofs.YtbhhaehdoiaihaaGreatDoor
open Go.RowKit

theorem fields_any (s : ByteArray) (hs : s.size ≤ 4294967280) (w : World) : Calls Tryz.prog 65 #[.string s] w (FieldsPost s.data.toList w) :=
  callsIn_wide.1 (fields_in s hs w)
theorem own_form {w : World} {base : Nat} {e : TypeId} {size n : Nat} {v : Value} {xs : List Value} (h : w.ownsRow base e size v n xs) : ∃ A c, v = .slice A n c := by
  rcases h.2 with ⟨rfl, rfl⟩ | ⟨g, cap, cur, rfl, _⟩
  · exact ⟨none, 0, rfl⟩
  · exact ⟨_, cap, rfl⟩
def OtherPost (w : World) (e : Ending) (w' : World) : Prop := ∃ (A : Option Addr) (n c : Nat), ((n : Int) != 5) = true ∧ e = .returned (.slice A n c) ∧ Below w.heap.size w w'
theorem fields_other (s : ByteArray) (hs : s.size ≤ 4294967280) (h : (Pm.fields s.data.toList).length ≠ 5) (w : World) : Calls Tryz.prog 65 #[.string s] w (OtherPost w) := by
  refine (fields_any s hs w).mono ?_
  rintro e w' ⟨v, rfl, hown, hb⟩
  obtain ⟨A, c, rfl⟩ := own_form hown
  exact ⟨A, _, c, by rw [bne_iff_ne]; omega, rfl, hb⟩
def FivePost (a b c d x : Pm.Bs) (w : World) (e : Ending) (w' : World) : Prop := ∃ (g cap : Nat), e = .returned (.slice (some ⟨g, 0, none⟩) 5 cap) ∧
  w'.cell? ⟨g, 0, none⟩ = some (.string ⟨a.toArray⟩) ∧ w'.cell? ⟨g, 1, none⟩ = some (.string ⟨b.toArray⟩) ∧ w'.cell? ⟨g, 2, none⟩ = some (.string ⟨c.toArray⟩) ∧
  w'.cell? ⟨g, 3, none⟩ = some (.string ⟨d.toArray⟩) ∧ w'.cell? ⟨g, 4, none⟩ = some (.string ⟨x.toArray⟩) ∧ Below w.heap.size w w'
theorem fields_five (s : ByteArray) (hs : s.size ≤ 4294967280) (a b c d x : Pm.Bs) (h : Pm.fields s.data.toList = [a, b, c, d, x]) (w : World) : Calls Tryz.prog 65 #[.string s] w (FivePost a b c d x w) := by
  refine (fields_any s hs w).mono ?_
  rintro e w' ⟨v, rfl, hown, hb⟩
  rw [h] at hown
  rcases hown.2 with ⟨_, h0⟩ | ⟨g, cap, cur, rfl, _⟩
  · simp at h0
  · refine ⟨g, cap, rfl, ?_, ?_, ?_, ?_, ?_, hb⟩
    all_goals rw [hown.cellAt _ (by simp)]; rfl

theorem fields_sizes (l : Pm.Bs) : ∀ x ∈ Pm.fields l, x.length ≤ l.length := by
  suffices h : ∀ f (l : Pm.Bs), ∀ x ∈ Pm.words f l, x.length ≤ l.length from h l.length l
  intro f
  induction f with
  | zero => intro l x hx; simp [Pm.words] at hx
  | succ f ih =>
    intro l x hx
    unfold Pm.words at hx
    have hle : (l.dropWhile Pm.isWhite).length ≤ l.length := List.dropWhile_sublist _ |>.length_le
    split at hx
    · simp at hx
    · next c r e =>
      rw [e] at hle
      rcases List.mem_cons.1 hx with rfl | hx
      · exact Nat.le_trans (List.takeWhile_sublist _ |>.length_le) hle
      · exact Nat.le_trans (ih _ x hx) (Nat.le_trans (List.dropWhile_sublist _ |>.length_le) hle)
theorem str_size (x l : Pm.Bs) (s : ByteArray) (hs : s.size ≤ 4294967280) (hl : s.data.toList = l) (h : x.length ≤ l.length) : (⟨x.toArray⟩ : ByteArray).size ≤ 4294967280 := by
  rw [Lib.size_eq]; rw [Lib.size_eq, hl] at hs; simpa using Nat.le_trans h hs
theorem dayAt_bd (a b : Pm.Bs) (y n : Int) (h : Pm.dayAt a b y = some n) : 0 ≤ n ∧ n ≤ 3000000 := by
  unfold Pm.dayAt at h
  split at h
  · cases h
  · unfold Pm.dayNumber at h
    split at h
    · cases h
    · next hc =>
      injection h with h
      have h1 := before_bd y (by omega) (by omega)
      have h2 := cum_bd y (Pm.monthOf b - 1).toNat
      have h3 := daysOf_bd y (Pm.monthOf b)
      omega
theorem tod_bd (l : Pm.Bs) (t : Int) (h : Pm.timeOfDay l = some t) : 0 ≤ t ∧ t ≤ 86400000 := by
  unfold Pm.timeOfDay at h
  split at h
  · split at h
    · cases h
    · next h1 =>
      have b1 := digits_bd _ _ h1
      split at h
      · cases h
      · split at h
        · cases h
        · next h2 =>
          have b2 := digits_bd _ _ h2
          split at h
          · cases h
          · split at h
            · cases h
            · next h3 =>
              have b3 := digits_bd _ _ h3
              split at h
              · cases h
              · injection h with h; omega
  · cases h

theorem quiet_any {P : Program} {f : FuncId} {args : Array Value} {w : World} {a : Nat} {v : Value}
    (h : Calls P f args (w.drewN a) fun e w' => e = .returned v ∧ ∃ m, w' = (w.drewN a).drewN m) :
    Calls P f args (w.drewN a) fun e w'' => e = .returned v ∧ ∃ m, w'' = w.drewN m :=
  h.mono fun _ _ ⟨he, m, hm⟩ => ⟨he, a + m, by rw [hm, World.drewN_drewN]⟩
theorem quiet_any2 {P : Program} {f : FuncId} {args : Array Value} {w : World} {a n : Nat} {v : Value}
    (h : Calls P f args (w.drewN (a + n)) fun e w' => e = .returned v ∧ ∃ m, w' = (w.drewN (a + n)).drewN m) :
    Calls P f args (w.drewN (a + n)) fun e w'' => e = .returned v ∧ ∃ m, w'' = w.drewN (a + m) :=
  h.mono fun _ _ ⟨he, m, hm⟩ => ⟨he, n + m, by rw [hm, World.drewN_drewN, Nat.add_assoc]⟩

theorem unasc_other (l : Pm.Bs) (h : (Pm.fields l).length ≠ 5) : Pm.unasc l = none := by
  unfold Pm.unasc
  split
  · next e => rw [e] at h; simp at h
  · rfl

def UnPost (l : Pm.Bs) (w : World) (e : Ending) (w' : World) : Prop :=
  e = .returned (.tuple #[.int .i64 ((Pm.unasc l).getD 0), .bool (Pm.unasc l).isSome]) ∧ Below w.heap.size w w'

set_option maxHeartbeats 2000000 in
theorem unasc_any (s : ByteArray) (hs : s.size ≤ 4294967280) (w : World) (ht : Tab w) :
    Calls Tryz.prog 47 #[.string s] w (UnPost s.data.toList w) := by
  unfold UnPost
  by_cases h5 : (Pm.fields s.data.toList).length = 5
  case neg =>
    rw [unasc_other _ h5]
    have hf := Lib.hid (fields_other s hs h5 w)
    clear h5
    go_enter Tryz.func47, Tryz.ntmps47
    go_wp2_with (go_at_call 65; refine (hf.out).mono ?_; rintro e w1 ⟨A, n, c, hn, rfl, hb⟩)
    all_goals go_ret2
    all_goals exact ⟨rfl, hb⟩
  case pos =>
    obtain ⟨a, b, c, d, x, hx⟩ : ∃ a b c d x, Pm.fields s.data.toList = [a, b, c, d, x] := by
      match hL : Pm.fields s.data.toList, h5 with
      | [a, b, c, d, x], _ => exact ⟨a, b, c, d, x, rfl⟩
    clear h5
    have hf := Lib.hid (fields_five s hs a b c d x hx w)
    have za := str_size a _ s hs rfl (fields_sizes _ a (by rw [hx]; simp))
    have zb := str_size b _ s hs rfl (fields_sizes _ b (by rw [hx]; simp))
    have zc := str_size c _ s hs rfl (fields_sizes _ c (by rw [hx]; simp))
    have zd := str_size d _ s hs rfl (fields_sizes _ d (by rw [hx]; simp))
    have zx := str_size x _ s hs rfl (fields_sizes _ x (by rw [hx]; simp))
    unfold Pm.unasc
    rw [hx]
    dsimp only
    clear hx
    have hday : Hid (∀ W, Tab W → Calls Tryz.prog 66 #[.string ⟨a.toArray⟩] W fun e w' => e = .returned (.bool (Pm.isDay a)) ∧ ∃ n, w' = W.drewN n) := fun W hW => isDay_any ⟨a.toArray⟩ za W hW
    have hdig : Hid (∀ W, Calls Tryz.prog 67 #[.string ⟨x.toArray⟩, .int .i64 4, .int .i64 4] W fun e w' => e = .returned (.tuple #[.int .i64 ((Pm.digits x 4 4).getD 0), .bool (Pm.digits x 4 4).isSome]) ∧ W = w') := fun W => digits_any ⟨x.toArray⟩ 4 4 zx W
    have hdat : Hid (∀ y W, Tab W → Calls Tryz.prog 68 #[.string ⟨c.toArray⟩, .string ⟨b.toArray⟩, .int .i64 y] W fun e w' => e = .returned (.tuple #[.int .i64 ((Pm.dayAt c b y).getD 0), .bool (Pm.dayAt c b y).isSome]) ∧ ∃ n, w' = W.drewN n) := fun y W hW => dayAt_any ⟨c.toArray⟩ ⟨b.toArray⟩ y zc zb W hW
    have htod : Hid (∀ W, Tab W → Calls Tryz.prog 69 #[.string ⟨d.toArray⟩, .int .i64 2, .int .i64 59] W (TodPost d W)) := fun W hW => timeOfDay_any ⟨d.toArray⟩ zd W hW
    clear za zb zc zd zx
    have HT := Lib.hid ht
    clear ht
    cases hA : Pm.isDay a
    · have HA := Lib.hid hA
      clear hA
      simp only [Bool.false_eq_true, if_false]
      go_enter Tryz.func47, Tryz.ntmps47
      go_wp2_with (first
        | (go_at_call 65; refine (hf.out).mono ?_; rintro e w1 ⟨g, cap, rfl, c0, c1, c2, c3, c4, hb⟩; have HW := Lib.hid (HT.out.below hb))
        | (go_at_call 66; refine (hday.out _ HW.out).mono ?_; rintro e w' ⟨rfl, n1, rfl⟩; rw [HA.out]))
      go_ret2
      exact ⟨rfl, below_drewN hb _⟩
    · have HA := Lib.hid hA
      clear hA
      simp only [if_true]
      cases hX : Pm.digits x 4 4 with
      | none =>
        have HX := Lib.hid hX
        clear hX
        go_enter Tryz.func47, Tryz.ntmps47
        go_wp2_with (first
          | (go_at_call 65; refine (hf.out).mono ?_; rintro e w1 ⟨g, cap, rfl, c0, c1, c2, c3, c4, hb⟩; have HW := Lib.hid (HT.out.below hb))
          | (go_at_call 66; refine (hday.out _ HW.out).mono ?_; rintro e w' ⟨rfl, n1, rfl⟩; rw [HA.out])
          | (go_at_call 67; refine (hdig.out _).mono ?_; rintro e w' ⟨rfl, rfl⟩; rw [HX.out]))
        go_ret2
        exact ⟨rfl, below_drewN hb _⟩
      | some y =>
        have HX := Lib.hid hX
        clear hX
        (try dsimp only)
        cases hN : Pm.dayAt c b y with
        | none =>
          have HN : Hid (∀ W, Tab W → Calls Tryz.prog 68 #[.string ⟨c.toArray⟩, .string ⟨b.toArray⟩, .int .i64 y] W fun e w' => e = .returned (.tuple #[.int .i64 0, .bool false]) ∧ ∃ n, w' = W.drewN n) := by
            have h := hdat.out y; rw [hN] at h; exact h
          clear hN
          go_enter Tryz.func47, Tryz.ntmps47
          go_wp2_with (first
            | (go_at_call 65; refine (hf.out).mono ?_; rintro e w1 ⟨g, cap, rfl, c0, c1, c2, c3, c4, hb⟩; have HW := Lib.hid (HT.out.below hb))
            | (go_at_call 66; refine (hday.out _ HW.out).mono ?_; rintro e w' ⟨rfl, n1, rfl⟩; rw [HA.out])
            | (go_at_call 67; refine (hdig.out _).mono ?_; rintro e w' ⟨rfl, rfl⟩; rw [HX.out]))
          go_quiet ((go_at_call 68; exact quiet_any2 (HN.out _ (HW.out.drewN _))))
          go_wp2
          go_ret2
          exact ⟨rfl, below_drewN hb _⟩
        | some n =>
          obtain ⟨bn1, bn2⟩ := dayAt_bd _ _ _ _ hN
          have HN : Hid (∀ W, Tab W → Calls Tryz.prog 68 #[.string ⟨c.toArray⟩, .string ⟨b.toArray⟩, .int .i64 y] W fun e w' => e = .returned (.tuple #[.int .i64 n, .bool true]) ∧ ∃ n, w' = W.drewN n) := by
            have h := hdat.out y; rw [hN] at h; exact h
          clear hN
          (try dsimp only)
          cases hD : Pm.timeOfDay d with
          | none =>
            have HD := Lib.hid hD
            clear hD
            go_enter Tryz.func47, Tryz.ntmps47
            go_wp2_with (first
              | (go_at_call 65; refine (hf.out).mono ?_; rintro e w1 ⟨g, cap, rfl, c0, c1, c2, c3, c4, hb⟩; have HW := Lib.hid (HT.out.below hb))
              | (go_at_call 66; refine (hday.out _ HW.out).mono ?_; rintro e w' ⟨rfl, n1, rfl⟩; rw [HA.out])
              | (go_at_call 67; refine (hdig.out _).mono ?_; rintro e w' ⟨rfl, rfl⟩; rw [HX.out]))
            go_quiet ((go_at_call 68; exact quiet_any2 (HN.out _ (HW.out.drewN _))))
            go_wp2_with (go_at_call 69; refine (htod.out _ (HW.out.drewN _)).mono ?_; rintro e w2 ⟨rfl, hb2⟩; rw [HD.out])
            go_ret2
            exact ⟨rfl, (below_drewN hb _).trans (hb2.mono hb.size)⟩
          | some t =>
            obtain ⟨bt1, bt2⟩ := tod_bd _ _ hD
            have HD := Lib.hid hD
            clear hD
            (try dsimp only)
            unfold Pm.dayMs
            cases hI : Pm.isTime (n * 86400000 + t)
            · have HI := Lib.hid hI
              clear hI
              simp only [Bool.false_eq_true, if_false]
              go_enter Tryz.func47, Tryz.ntmps47
              go_wp2_with (first
                | (go_at_call 65; refine (hf.out).mono ?_; rintro e w1 ⟨g, cap, rfl, c0, c1, c2, c3, c4, hb⟩; have HW := Lib.hid (HT.out.below hb))
                | (go_at_call 66; refine (hday.out _ HW.out).mono ?_; rintro e w' ⟨rfl, n1, rfl⟩; rw [HA.out])
                | (go_at_call 67; refine (hdig.out _).mono ?_; rintro e w' ⟨rfl, rfl⟩; rw [HX.out]))
              go_quiet ((go_at_call 68; exact quiet_any2 (HN.out _ (HW.out.drewN _))))
              go_wp2_with (first
                | (go_at_call 69; refine (htod.out _ (HW.out.drewN _)).mono ?_; rintro e w2 ⟨rfl, hb2⟩; rw [HD.out])
                | (go_at_call 38; refine (isTime_any _ _).mono ?_; rintro e w' ⟨rfl, rfl⟩; rw [HI.out]))
              go_ret2
              exact ⟨rfl, (below_drewN hb _).trans (hb2.mono hb.size)⟩
            · have HI := Lib.hid hI
              clear hI
              simp only [if_true]
              go_enter Tryz.func47, Tryz.ntmps47
              go_wp2_with (first
                | (go_at_call 65; refine (hf.out).mono ?_; rintro e w1 ⟨g, cap, rfl, c0, c1, c2, c3, c4, hb⟩; have HW := Lib.hid (HT.out.below hb))
                | (go_at_call 66; refine (hday.out _ HW.out).mono ?_; rintro e w' ⟨rfl, n1, rfl⟩; rw [HA.out])
                | (go_at_call 67; refine (hdig.out _).mono ?_; rintro e w' ⟨rfl, rfl⟩; rw [HX.out]))
              go_quiet ((go_at_call 68; exact quiet_any2 (HN.out _ (HW.out.drewN _))))
              go_wp2_with (first
                | (go_at_call 69; refine (htod.out _ (HW.out.drewN _)).mono ?_; rintro e w2 ⟨rfl, hb2⟩; rw [HD.out])
                | (go_at_call 38; refine (isTime_any _ _).mono ?_; rintro e w' ⟨rfl, rfl⟩; rw [HI.out]))
              go_ret2
              exact ⟨rfl, (below_drewN hb _).trans (hb2.mono hb.size)⟩

end Go.Proofs.YtbhhaehdoiaihaaGreatDoor
