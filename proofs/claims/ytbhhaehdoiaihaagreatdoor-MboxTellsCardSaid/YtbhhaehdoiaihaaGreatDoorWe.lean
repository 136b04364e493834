/- The walks of mbox's small functions, over the library's contracts. -/
import Derived.Test.YtbhhaehdoiaihaaGreatDoorWd
import Derived.Test.YtbhhaehdoiaihaaGreatDoorShelf
namespace Go.Proofs.YtbhhaehdoiaihaaGreatDoor
open Go.RowKit

def strLen : Value → Nat | .string b => b.size | _ => 0

theorem slice_drop (l : Pm.Bs) (a b : Nat) (h : b = l.length) : (⟨l.toArray⟩ : ByteArray).extract a b = ⟨(l.drop a).toArray⟩ := by
  rw [Lib.extract_eq, h]
  simp only
  rw [List.take_of_length_le (by simp)]
theorem str_drop (l : Pm.Bs) (a b : Nat) (h : b = l.length) : Value.string ((⟨l.toArray⟩ : ByteArray).extract a b) = .string ⟨(l.drop a).toArray⟩ := by rw [slice_drop l a b h]
theorem strLen_mk (l : Pm.Bs) : strLen (.string ⟨l.toArray⟩) = l.length := by
  show ByteArray.size _ = _
  rw [Lib.size_eq]

theorem idx10 (s : ByteArray) (w : World) : Calls Tryz.prog 43 #[.string s, .int .u8 10] w fun e w' => e = .returned (.int .i64 (Lib.indexByte s.data.toList 10)) ∧ w = w' :=
  (Tryz.strings_IndexByte s 10 w).mono fun _ _ ⟨a, b⟩ => ⟨a, b.symm⟩

theorem first_any (s : ByteArray) (hs : s.size ≤ 4294967280) (w : World) :
    Calls Tryz.prog 20 #[.string s] w fun e w' => e = .returned (.string ⟨(Pm.first s.data.toList).toArray⟩) ∧ w = w' := by
  have hi := Lib.hid (idx10 s w)
  have hsz := Lib.hid (Lib.size_eq s)
  have hg := Lib.indexByte_ge s.data.toList 10
  by_cases hq : Lib.indexByte s.data.toList 10 = -1
  · have hf := Lib.hid (Pm.first_miss _ (Pm.indexByte_miss _ _ hq))
    have HQ := Lib.hid hq
    clear hq hg
    rw [hf.out, Lib.mk_data]
    go_enter Tryz.func20, Tryz.ntmps20
    go_wp2_with (go_at_call 43; refine (hi.out).mono ?_; rintro e w' ⟨rfl, rfl⟩; rw [HQ.out])
    go_ret
    exact ⟨rfl, rfl⟩
  · obtain ⟨i, hi'⟩ : ∃ i : Nat, Lib.indexByte s.data.toList 10 = (i : Int) := ⟨(Lib.indexByte s.data.toList 10).toNat, by omega⟩
    obtain ⟨h1, h2⟩ := Pm.indexByte_hit _ _ i hi'
    have hf := Lib.hid (Pm.first_hit _ i h1 h2)
    have hil : i < s.size := by
      rw [hsz.out]; exact (List.getElem?_eq_some_iff.1 h1).1
    have HQ := Lib.hid hi'
    clear hq hg hi' h1 h2
    rw [hf.out]
    go_enter Tryz.func20, Tryz.ntmps20
    go_wp2_with (go_at_call 43; refine (hi.out).mono ?_; rintro e w' ⟨rfl, rfl⟩; rw [HQ.out])
    go_ret
    exact ⟨ret_str (by rw [Lib.extract_eq]; simp), rfl⟩

theorem content_any (s : ByteArray) (hs : s.size ≤ 4294967280) (w : World) :
    Calls Tryz.prog 46 #[.string s] w fun e w' => e = .returned (.string ⟨(Pm.content s.data.toList).toArray⟩) ∧ w = w' := by
  have h1 : Hid (Calls Tryz.prog 63 #[.string s, .string ⟨#[10]⟩] w fun e w' => e = .returned (.tuple #[.string ⟨(Lib.trimSuffix s.data.toList [10]).toArray⟩, .bool (Lib.hasSuffix s.data.toList [10])]) ∧ w = w') :=
    (Tryz.strings_CutSuffix s ⟨#[10]⟩ w (by omega)).mono fun _ _ ⟨a, b⟩ => ⟨a, b.symm⟩
  have h2 : Hid (∀ t : ByteArray, t.size ≤ s.size → Calls Tryz.prog 64 #[.string t, .string ⟨#[13]⟩] w fun e w' => e = .returned (.string ⟨(Lib.trimSuffix t.data.toList [13]).toArray⟩) ∧ w = w') :=
    fun t ht => (Tryz.strings_TrimSuffix t ⟨#[13]⟩ w (by omega)).mono fun _ _ ⟨a, b⟩ => ⟨a, b.symm⟩
  unfold Pm.content
  cases hx : Lib.hasSuffix s.data.toList [10]
  · have HX := Lib.hid hx
    clear hx
    have ht : Lib.trimSuffix s.data.toList [10] = s.data.toList := by unfold Lib.trimSuffix; rw [if_neg (by rw [HX.out]; simp)]
    have HT := Lib.hid ht
    clear ht
    rw [if_neg (by simp)]
    go_enter Tryz.func46, Tryz.ntmps46
    go_wp2_with (go_at_call 63; refine (h1.out).mono ?_; rintro e w' ⟨rfl, rfl⟩; rw [HX.out, HT.out])
    go_ret
    exact ⟨rfl, rfl⟩
  · have HX := Lib.hid hx
    clear hx
    rw [if_pos rfl]
    have hle : (⟨(Lib.trimSuffix s.data.toList [10]).toArray⟩ : ByteArray).size ≤ s.size := by
      rw [Lib.size_eq, Lib.size_eq]; simpa using Lib.trimSuffix_le s.data.toList [10]
    go_enter Tryz.func46, Tryz.ntmps46
    go_wp2_with (first
      | (go_at_call 63; refine (h1.out).mono ?_; rintro e w' ⟨rfl, rfl⟩; rw [HX.out])
      | (go_at_call 64; refine (h2.out _ hle).mono ?_; rintro e w' ⟨rfl, rfl⟩))
    go_ret
    exact ⟨rfl, rfl⟩

theorem content_le (l : Pm.Bs) : (Pm.content l).length ≤ l.length := by
  unfold Pm.content
  split
  · exact Nat.le_trans (Lib.trimSuffix_le _ _) (Lib.trimSuffix_le _ _)
  · exact Nat.le_refl _

theorem blank_any (s : ByteArray) (hs : s.size ≤ 4294967280) (w : World) :
    Calls Tryz.prog 24 #[.string s] w fun e w' => e = .returned (.bool (Pm.blank s.data.toList)) ∧ w = w' := by
  have h1 := Lib.hid (content_any s hs w)
  unfold Pm.blank
  go_enter Tryz.func24, Tryz.ntmps24
  go_wp2_with (go_at_call 46; refine (h1.out).mono ?_; rintro e w' ⟨rfl, rfl⟩)
  go_ret
  exact ⟨ret_bool (by simp), rfl⟩

theorem marked_any (s : ByteArray) (w : World) :
    Calls Tryz.prog 36 #[.string s] w fun e w' => e = .returned (.bool (Pm.marked s.data.toList)) ∧ w = w' := by
  have h1 : Hid (Calls Tryz.prog 56 #[.string s, .string ⟨#[62]⟩] w fun e w' => e = .returned (.string ⟨(Lib.trimLeftB s.data.toList 62).toArray⟩) ∧ w = w') :=
    (Tryz.strings_TrimLeft_one s 62 (by decide) w).mono fun _ _ ⟨a, b⟩ => ⟨a, b.symm⟩
  have h2 : Hid (∀ t : ByteArray, Calls Tryz.prog 21 #[.string t, .string ⟨#[70, 114, 111, 109, 32]⟩] w fun e w' => e = .returned (.bool (Lib.hasPrefix t.data.toList [70, 114, 111, 109, 32])) ∧ w = w') :=
    fun t => (Tryz.strings_HasPrefix t ⟨#[70, 114, 111, 109, 32]⟩ w).mono fun _ _ ⟨a, b⟩ => ⟨a, b.symm⟩
  unfold Pm.marked Pm.fromB
  go_enter Tryz.func36, Tryz.ntmps36
  go_wp2_with (first
    | (go_at_call 56; refine (h1.out).mono ?_; rintro e w' ⟨rfl, rfl⟩)
    | (go_at_call 21; refine (h2.out _).mono ?_; rintro e w' ⟨rfl, rfl⟩))
  go_ret
  exact ⟨rfl, rfl⟩

theorem bare_any (s : ByteArray) (w : World) :
    Calls Tryz.prog 21 #[.string s, .string ⟨#[70, 114, 111, 109, 32]⟩] w fun e w' => e = .returned (.bool (Pm.bare s.data.toList)) ∧ w = w' :=
  (Tryz.strings_HasPrefix s ⟨#[70, 114, 111, 109, 32]⟩ w).mono fun _ _ ⟨a, b⟩ => ⟨a, b.symm⟩

set_option maxHeartbeats 800000 in
theorem hasBlank_any (s : ByteArray) (hs : s.size ≤ 4294967280) (w : World) :
    Calls Tryz.prog 25 #[.string s] w fun e w' => e = .returned (.bool (Pm.hasBlank s.data.toList)) ∧ w = w' := by
  have hfirst : Hid (∀ t : ByteArray, t.size ≤ s.size → Calls Tryz.prog 20 #[.string t] w fun e w' => e = .returned (.string ⟨(Pm.first t.data.toList).toArray⟩) ∧ w = w') :=
    fun t ht => first_any t (by omega) w
  have hblank : Hid (∀ t : ByteArray, t.size ≤ s.size → Calls Tryz.prog 24 #[.string t] w fun e w' => e = .returned (.bool (Pm.blank t.data.toList)) ∧ w = w') :=
    fun t ht => blank_any t (by omega) w
  go_enter Tryz.func25, Tryz.ntmps25
  go_wp2
  go_loop [0] (fun v => ∃ l : Pm.Bs, v = .string ⟨l.toArray⟩ ∧ l.length ≤ s.size ∧ Pm.hasBlank s.data.toList = (Pm.lines l).any Pm.blank) (fun v => strLen v)
  case atStart => exact ⟨s.data.toList, by rw [Lib.mk_data], by rw [← Lib.size_eq]; exact Nat.le_refl _, rfl⟩
  case round =>
    obtain ⟨l, rfl, hl, hb⟩ := hrel
    have HB := Lib.hid hb
    clear hb
    cases l with
    | nil =>
      go_wp2
      go_ret
      exact ⟨ret_bool (by rw [HB.out]; rfl), rfl⟩
    | cons c r =>
      have hle := Pm.first_length (c :: r)
      have hpos := Pm.first_pos (c :: r) (by simp)
      have hlines := Lib.hid (Pm.lines_eq (c :: r) (by simp))
      have hf1 : Hid (Calls Tryz.prog 20 #[.string ⟨(c :: r).toArray⟩] w fun e w' => e = .returned (.string ⟨(Pm.first (c :: r)).toArray⟩) ∧ w = w') :=
        hfirst.out ⟨(c :: r).toArray⟩ (by rw [Lib.size_eq]; simpa using hl)
      have hb1 : Hid (Calls Tryz.prog 24 #[.string ⟨(Pm.first (c :: r)).toArray⟩] w fun e w' => e = .returned (.bool (Pm.blank (Pm.first (c :: r)))) ∧ w = w') :=
        hblank.out ⟨(Pm.first (c :: r)).toArray⟩ (by rw [Lib.size_eq]; simp at hle ⊢; simp at hl; omega)
      cases hbl : Pm.blank (Pm.first (c :: r))
      · have HBL := Lib.hid hbl
        clear hbl
        generalize Pm.first (c :: r) = f at *
        have hle' : f.length ≤ r.length + 1 := by simpa using hle
        have hl' : r.length + 1 ≤ s.size := by simpa using hl
        clear hle hl
        go_wp2_with (first
          | (go_at_call 20; refine (hf1.out).mono ?_; rintro e w' ⟨rfl, rfl⟩)
          | (go_at_call 24; refine (hb1.out).mono ?_; rintro e w' ⟨rfl, rfl⟩; rw [HBL.out]))
        go_round
        case rel => exact ⟨(c :: r).drop f.length, str_drop _ _ _ (by simp), by simp; omega, by rw [HB.out, hlines.out]; simp [HBL.out]⟩
        case measure =>
          show strLen (Value.string _) < strLen (Value.string _)
          rw [slice_drop _ _ _ (by simp), strLen_mk, strLen_mk]
          simp; omega
      · have HBL := Lib.hid hbl
        clear hbl
        generalize Pm.first (c :: r) = f at *
        have hle' : f.length ≤ r.length + 1 := by simpa using hle
        have hl' : r.length + 1 ≤ s.size := by simpa using hl
        clear hle hl
        go_wp2_with (first
          | (go_at_call 20; refine (hf1.out).mono ?_; rintro e w' ⟨rfl, rfl⟩)
          | (go_at_call 24; refine (hb1.out).mono ?_; rintro e w' ⟨rfl, rfl⟩; rw [HBL.out]))
        go_ret
        exact ⟨ret_bool (by rw [HB.out, hlines.out]; simp [HBL.out]), rfl⟩

end Go.Proofs.YtbhhaehdoiaihaaGreatDoor
