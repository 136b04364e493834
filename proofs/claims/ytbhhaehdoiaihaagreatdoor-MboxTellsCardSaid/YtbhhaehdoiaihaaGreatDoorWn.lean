/- The walk of missiveref16.Lines. -/
import Derived.Test.YtbhhaehdoiaihaaGreatDoorWm
namespace Go.Proofs.YtbhhaehdoiaihaaGreatDoor
open Go.RowKit

def LinesPost (l : Pm.Bs) (w : World) (e : Ending) (w' : World) : Prop :=
  ∃ (A : Option Addr) (c : Nat), e = .returned (.slice A (Pm.lines l).length c) ∧ w'.ownsRow w.heap.size 9 1 (.slice A (Pm.lines l).length c) (Pm.lines l).length ((Pm.lines l).map strV) ∧ Below w.heap.size w w'

theorem lines_hit (l : Pm.Bs) (f k : Nat) (hk : k < l.length) (hf : f ≤ k) (h : ∀ x ∈ (l.drop f).take (k - f), x ≠ 10) (h10 : l[k] = 10) :
    Pm.lines (l.drop f) = (l.drop f).take (k + 1 - f) :: Pm.lines (l.drop (k + 1)) := by
  have hne : l.drop f ≠ [] := by
    intro e; have := congrArg List.length e; rw [List.length_drop] at this; simp at this; omega
  have hfi : Pm.first (l.drop f) = (l.drop f).take (k - f + 1) := Pm.first_hit _ _ (by rw [List.getElem?_drop, show f + (k - f) = k by omega, List.getElem?_eq_getElem hk, h10]) h
  rw [Pm.lines_eq _ hne, hfi, List.drop_drop, List.length_take, List.length_drop]
  rw [show f + min (k - f + 1) (l.length - f) = k + 1 by omega, show k - f + 1 = k + 1 - f by omega]
theorem lines_miss (l : Pm.Bs) (hne : l ≠ []) (h : ∀ x ∈ l, x ≠ 10) : Pm.lines l = [l] := by
  rw [Pm.lines_eq _ hne, Pm.first_miss _ h, List.drop_length]; rfl
theorem take_more10 (l : Pm.Bs) (f k : Nat) (hk : k < l.length) (hf : f ≤ k) (h : ∀ x ∈ (l.drop f).take (k - f), x ≠ 10) (h10 : l[k] ≠ 10) : ∀ x ∈ (l.drop f).take (k + 1 - f), x ≠ 10 := by
  have hkk : k - f < (l.drop f).length := by rw [List.length_drop]; omega
  rw [show k + 1 - f = (k - f) + 1 by omega, List.take_succ_eq_append_getElem hkk]
  intro x hx
  rcases List.mem_append.1 hx with hx | hx
  · exact h x hx
  · simp at hx; rw [hx]; simpa [show f + (k - f) = k by omega] using h10

theorem tenNat : (10 : UInt8).toNat = 10 := rfl
def LinesInv (s : ByteArray) (w : World) (v3 v4 v5 : Value) (wr : World) : Prop :=
  ∃ (A : Option Addr) (c : Nat) (L : List Pm.Bs) (f k : Nat), v3 = .slice A L.length c ∧ v4 = .int .i64 f ∧ v5 = .int .i64 k ∧ f ≤ k ∧ k ≤ s.size ∧ L.length ≤ f ∧
    L ++ Pm.lines (s.data.toList.drop f) = Pm.lines s.data.toList ∧ (∀ x ∈ (s.data.toList.drop f).take (k - f), x ≠ 10) ∧
    wr.ownsRow w.heap.size 9 1 (.slice A L.length c) L.length (L.map strV) ∧ Below w.heap.size w wr

theorem ext_mid (s : ByteArray) (a b : Nat) : Value.string (s.extract a b) = strV ((s.data.toList.drop a).take (b - a)) := by
  unfold strV; rw [Lib.extract_eq]

set_option maxRecDepth 100000 in
set_option maxHeartbeats 1600000 in
theorem lines_any (s : ByteArray) (hs : s.size ≤ 1073741824) (w : World) :
    Calls Tryz.prog 26 #[.string s] w (LinesPost s.data.toList w) := by
  obtain ⟨iS, hS, hS0, hS1, hS2⟩ := info_parts info_str
  have hsz := Lib.hid (Lib.size_eq s)
  go_enter Tryz.func26, Tryz.ntmps26
  go_wp2
  go_loopw [3, 4, 5] (fun v3 v4 v5 wr => LinesInv s w v3 v4 v5 wr) (fun _ _ v5 _ => s.size - (intOf v5).toNat)
  case atStart => exact ⟨none, 0, [], 0, 0, rfl, rfl, rfl, by omega, by omega, by simp, rfl, by simp, World.ownsRow_nil _ _ _ _, Below.refl _ _⟩
  case round =>
    obtain ⟨A, c, L, f, k, rfl, rfl, rfl, hfk, hk, hLf, hL, h10, hO, hB⟩ := hrel
    have HL := Lib.hid hL
    have H10 := Lib.hid h10
    have HO := Lib.hid hO
    have HB := Lib.hid hB
    clear hL h10 hO hB
    by_cases hlt : k < s.size
    · have hlt' : (k : Int) < (s.size : Int) := by omega
      have hkl : k < s.data.toList.length := by rw [← hsz.out]; exact hlt
      by_cases hc : s[k].toNat = 10
      · have hc10 : s.data.toList[k] = 10 := by
          rw [Pm.u8_eq_iff]; exact hc.trans tenNat.symm
        have hhit := Lib.hid (lines_hit s.data.toList f k hkl hfk H10.out hc10)
        have hc' : (s[k].toNat : Int) = 10 := by omega
        clear hc10
        have hf' : (f : Int) ≤ (k : Int) + 1 := by omega
        have hin : k + 1 ≤ s.size := by omega
        go_wp2_with (at_builtin; refine wpList_append_own _ rfl (.tmp 16) (.tmp 22) 42 rfl w.heap.size 9 iS (.string .empty) 1 16 Tryz.underlying42 hS hS0 hS1 hS2 rfl (by decide) _ _ _ rfl (HO.out.alloc _) ⟨_, 0, none⟩ 1 1 [.string (s.extract f (k + 1))] rfl rfl (cells_new' _ _ (by simp) [.string (s.extract f (k + 1))] _) (by simp [Value.oneCell']) (by simp only [maxLen]; omega) (by omega) (Nat.le_trans HB.out.size (by simp)) ?_; intro v1 w1 ho1 hg1 _; obtain ⟨A1, c1, rfl⟩ := own_form ho1; have HO1 := Lib.hid ho1; have HG1 := Lib.hid hg1; clear ho1 hg1)
        go_roundw
        case rel =>
          refine ⟨A1, c1, L ++ [(s.data.toList.drop f).take (k + 1 - f)], k + 1, k + 1, by simp, by go_num, by go_num, by omega, by omega, by simp; omega, ?_, by simp, ?_, ?_⟩
          · rw [← HL.out, hhit.out]; simp
          · have h := HO1.out
            rw [ext_mid] at h
            simpa using h
          · exact (HB.out.alloc HB.out.size _).grown HG1.out (Nat.le_trans HB.out.size (by simp)) (RS.row_ge HO.out)
        case measure => simp [intOf]; omega
      · have hc10 : s.data.toList[k] ≠ 10 := by
          intro e; rw [Pm.u8_eq_iff] at e; exact hc (e.trans tenNat)
        have hmo := Lib.hid (take_more10 s.data.toList f k hkl hfk H10.out hc10)
        have hc' : ¬ (s[k].toNat : Int) = 10 := by omega
        clear hc10
        go_wp2
        go_roundw
        case rel => exact ⟨A, c, L, f, k + 1, rfl, rfl, by go_num, by omega, by omega, hLf, HL.out, hmo.out, HO.out, HB.out⟩
        case measure => simp [intOf]; omega
    · have hka : k = s.size := by omega
      subst hka
      by_cases hfl : f < s.size
      · have hfl' : (f : Int) < (s.size : Int) := by omega
        have hmiss : Hid (Pm.lines (s.data.toList.drop f) = [(s.data.toList.drop f).take (s.size - f)]) := by
          have h := H10.out
          rw [List.take_of_length_le (by rw [List.length_drop, ← hsz.out]; omega)] at h ⊢
          exact lines_miss _ (by intro e; have := congrArg List.length e; rw [List.length_drop, ← hsz.out] at this; simp at this; omega) h
        go_wp2_with (at_builtin; refine wpList_append_own _ rfl (.tmp 30) (.tmp 34) 42 rfl w.heap.size 9 iS (.string .empty) 1 16 Tryz.underlying42 hS hS0 hS1 hS2 rfl (by decide) _ _ _ rfl (HO.out.alloc _) ⟨_, 0, none⟩ 1 1 [.string (s.extract f s.size)] rfl rfl (cells_new' _ _ (by simp) [.string (s.extract f s.size)] _) (by simp [Value.oneCell']) (by simp only [maxLen]; omega) (by omega) (Nat.le_trans HB.out.size (by simp)) ?_; intro v1 w1 ho1 hg1 _; obtain ⟨A1, c1, rfl⟩ := own_form ho1; have HO1 := Lib.hid ho1; have HG1 := Lib.hid hg1; clear ho1 hg1)
        go_ret
        unfold LinesPost
        rw [← HL.out, hmiss.out]
        refine ⟨A1, c1, by simp, ?_, (HB.out.alloc HB.out.size _).grown HG1.out (Nat.le_trans HB.out.size (by simp)) (RS.row_ge HO.out)⟩
        have h := HO1.out
        rw [ext_mid] at h
        simpa using h
      · have hfe : f = s.size := by omega
        have hfl' : ¬ (f : Int) < (s.size : Int) := by omega
        go_wp2
        go_ret
        have hl := HL.out
        rw [hfe, hsz.out, List.drop_length, show Pm.lines [] = [] from rfl, List.append_nil] at hl
        unfold LinesPost
        rw [← hl]
        exact ⟨A, c, rfl, HO.out, HB.out⟩
end Go.Proofs.YtbhhaehdoiaihaaGreatDoor
