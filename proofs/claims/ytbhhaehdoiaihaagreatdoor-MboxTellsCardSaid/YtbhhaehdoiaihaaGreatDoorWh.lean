/- The walk of mbox.separator. -/
import Derived.Test.YtbhhaehdoiaihaaGreatDoorWg
namespace Go.Proofs.YtbhhaehdoiaihaaGreatDoor
open Go.RowKit

theorem ret_sib {a b : ByteArray} {k : IntKind} {i j : Int} {c d : Bool} (h : a = b) (h1 : i = j) (h2 : c = d) : Ending.returned (.tuple #[.string a, .int k i, .bool c]) = .returned (.tuple #[.string b, .int k j, .bool d]) := by rw [h, h1, h2]

def SepPost (l : Pm.Bs) (w : World) (e : Ending) (w' : World) : Prop :=
  e = .returned (.tuple #[.string ⟨(Pm.sepOf l).1.toArray⟩, .int .i64 (Pm.sepOf l).2.1, .bool (Pm.sepOf l).2.2]) ∧ Below w.heap.size w w'

theorem sep_none (l : Pm.Bs) (h : Pm.unasc (Lib.cut ((Pm.content l).drop 5) [32]).2.1 = none) : Pm.sepOf l = ((Lib.cut ((Pm.content l).drop 5) [32]).1, 0, false) := by
  unfold Pm.sepOf; dsimp only; rw [h]
theorem sep_empty (l : Pm.Bs) (h : (Lib.cut ((Pm.content l).drop 5) [32]).1 = []) : Pm.sepOf l = ((Lib.cut ((Pm.content l).drop 5) [32]).1, 0, false) := by
  unfold Pm.sepOf; dsimp only; rw [h]; split <;> rfl
theorem sep_some (l : Pm.Bs) (t : Int) (h : Pm.unasc (Lib.cut ((Pm.content l).drop 5) [32]).2.1 = some t) (h2 : (Lib.cut ((Pm.content l).drop 5) [32]).1 ≠ []) :
    Pm.sepOf l = ((Lib.cut ((Pm.content l).drop 5) [32]).1, t, true) := by
  unfold Pm.sepOf; dsimp only; rw [h]; simp [h2]
theorem cut_le (s p : Pm.Bs) : (Lib.cut s p).2.1.length ≤ s.length := by
  unfold Lib.cut; split <;> simp

set_option maxHeartbeats 800000 in
theorem separator_any (s : ByteArray) (hs : s.size ≤ 4294967280) (h5 : 5 ≤ (Pm.content s.data.toList).length) (w : World) (ht : Tab w) :
    Calls Tryz.prog 22 #[.string s] w (SepPost s.data.toList w) := by
  obtain ⟨m, hm⟩ := ht.most
  have hcl := content_le s.data.toList
  have hcon := Lib.hid (content_any s hs w)
  have hsz : ((Pm.content s.data.toList).drop 5).length ≤ 4294967280 := by
    rw [List.length_drop]; rw [Lib.size_eq] at hs; omega
  have hcut : Hid (Calls Tryz.prog 45 #[.string ⟨((Pm.content s.data.toList).drop 5).toArray⟩, .string ⟨#[32]⟩] w fun e w' =>
      e = .returned (.tuple #[.string ⟨(Lib.cut ((Pm.content s.data.toList).drop 5) [32]).1.toArray⟩, .string ⟨(Lib.cut ((Pm.content s.data.toList).drop 5) [32]).2.1.toArray⟩, .bool (Lib.cut ((Pm.content s.data.toList).drop 5) [32]).2.2]) ∧ ∃ n, w' = w.drewN n) :=
    Tryz.strings_Cut ⟨((Pm.content s.data.toList).drop 5).toArray⟩ ⟨#[32]⟩ m w (by rw [Lib.size_eq]; simpa using Nat.lt_of_le_of_lt hsz (by omega)) hm
  have hc2 := cut_le ((Pm.content s.data.toList).drop 5) [32]
  have hun : Hid (∀ n, Calls Tryz.prog 47 #[.string ⟨(Lib.cut ((Pm.content s.data.toList).drop 5) [32]).2.1.toArray⟩] (w.drewN n) (UnPost (Lib.cut ((Pm.content s.data.toList).drop 5) [32]).2.1 (w.drewN n))) :=
    fun n => unasc_any ⟨(Lib.cut ((Pm.content s.data.toList).drop 5) [32]).2.1.toArray⟩ (by rw [Lib.size_eq]; simpa using Nat.le_trans hc2 hsz) (w.drewN n) (ht.drewN n)
  unfold SepPost
  have hnone := sep_none s.data.toList
  have hempty := sep_empty s.data.toList
  have hsome := sep_some s.data.toList
  clear ht hm hcl hsz hc2
  generalize Pm.content s.data.toList = c at *
  generalize Lib.cut (c.drop 5) [32] = q at *
  obtain ⟨q1, q2, q3⟩ := q
  dsimp only at *
  cases hu : Pm.unasc q2 with
  | none =>
    rw [hnone hu]
    have HU := Lib.hid hu
    clear hu hnone hempty hsome
    go_enter Tryz.func22, Tryz.ntmps22
    go_wp2_with (first
      | (go_at_call 46; refine (hcon.out).mono ?_; rintro e w' ⟨rfl, rfl⟩)
      | (go_at_call 45; rw [str_drop _ _ _ (by simp)]; refine (hcut.out).mono ?_; rintro e w' ⟨rfl, n, rfl⟩)
      | (go_at_call 47; refine (hun.out _).mono ?_; rintro e w2 ⟨rfl, hb⟩; rw [HU.out]))
    go_ret3
    exact ⟨rfl, (below_drewN (Below.refl _ _) _).trans hb⟩
  | some t =>
    by_cases he : q1 = []
    · rw [hempty he]
      subst he
      have HU := Lib.hid hu
      clear hu hnone hempty hsome
      go_enter Tryz.func22, Tryz.ntmps22
      go_wp2_with (first
        | (go_at_call 46; refine (hcon.out).mono ?_; rintro e w' ⟨rfl, rfl⟩)
        | (go_at_call 45; rw [str_drop _ _ _ (by simp)]; refine (hcut.out).mono ?_; rintro e w' ⟨rfl, n, rfl⟩)
        | (go_at_call 47; refine (hun.out _).mono ?_; rintro e w2 ⟨rfl, hb⟩; rw [HU.out]))
      go_ret3
      exact ⟨rfl, (below_drewN (Below.refl _ _) _).trans hb⟩
    · rw [hsome t hu he]
      have HU := Lib.hid hu
      clear hu hnone hempty hsome
      obtain ⟨z, zs, rfl⟩ : ∃ z zs, q1 = z :: zs := by
        cases q1 with
        | nil => exact absurd rfl he
        | cons z zs => exact ⟨z, zs, rfl⟩
      clear he
      go_enter Tryz.func22, Tryz.ntmps22
      go_wp2_with (first
        | (go_at_call 46; refine (hcon.out).mono ?_; rintro e w' ⟨rfl, rfl⟩)
        | (go_at_call 45; rw [str_drop _ _ _ (by simp)]; refine (hcut.out).mono ?_; rintro e w' ⟨rfl, n, rfl⟩)
        | (go_at_call 47; refine (hun.out _).mono ?_; rintro e w2 ⟨rfl, hb⟩; rw [HU.out]))
      go_ret3
      exact ⟨rfl, (below_drewN (Below.refl _ _) _).trans hb⟩

end Go.Proofs.YtbhhaehdoiaihaaGreatDoor
