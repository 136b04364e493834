/- The walk of missiveref11.cut. -/
import Derived.Test.YtbhhaehdoiaihaaGreatDoorRg
namespace Go.Proofs.YtbhhaehdoiaihaaGreatDoor
open Go.RowKit

def CutPost (l : Pm.Bs) (w : World) (e : Ending) (w' : World) : Prop :=
  ∃ (A : Option Addr) (c : Nat), e = .returned (.slice A (Pm.splitC 58 l).length c) ∧ w'.ownsRow w.heap.size 9 1 (.slice A (Pm.splitC 58 l).length c) (Pm.splitC 58 l).length ((Pm.splitC 58 l).map strV) ∧ Below w.heap.size w w'
def CutInv (s : ByteArray) (w : World) (v3 v4 v5 : Value) (wr : World) : Prop :=
  ∃ (A : Option Addr) (c : Nat) (L : List Pm.Bs) (f k : Nat), v3 = .slice A L.length c ∧ v4 = .int .i64 f ∧ v5 = .int .i64 k ∧ k ≤ s.size + 1 ∧ L.length ≤ f ∧ f ≤ k ∧
    (k ≤ s.size → L ++ Pm.splitC 58 (s.data.toList.drop f) = Pm.splitC 58 s.data.toList ∧ (∀ x ∈ (s.data.toList.drop f).take (k - f), x ≠ 58)) ∧ (k = s.size + 1 → L = Pm.splitC 58 s.data.toList) ∧
    wr.ownsRow w.heap.size 9 1 (.slice A L.length c) L.length (L.map strV) ∧ Below w.heap.size w wr
theorem c58 : (58 : UInt8).toNat = 58 := rfl

set_option maxRecDepth 100000 in
set_option maxHeartbeats 1600000 in
theorem cut_any (s : ByteArray) (hs : s.size ≤ 1000000) (w : World) :
    Calls Tryz.prog 98 #[.string s] w (CutPost s.data.toList w) := by
  obtain ⟨iS, hS, hS0, hS1, hS2⟩ := info_parts info_str
  have hsz := Lib.hid (Lib.size_eq s)
  go_enter Tryz.func98, Tryz.ntmps98
  go_wp2
  go_loopw [3, 4, 5] (fun v3 v4 v5 wr => CutInv s w v3 v4 v5 wr) (fun _ _ v5 _ => s.size + 1 - (intOf v5).toNat)
  case atStart => exact ⟨none, 0, [], 0, 0, rfl, rfl, rfl, by omega, by simp, by omega, fun _ => ⟨by simp, by simp⟩, fun h => by omega, World.ownsRow_nil _ _ _ _, Below.refl _ _⟩
  case round =>
    obtain ⟨A, c, L, f, k, rfl, rfl, rfl, hk, hLf, hfk, hL, hD, hO, hB⟩ := hrel
    have HL := Lib.hid hL
    have HDn := Lib.hid hD
    have HO := Lib.hid hO
    have HB := Lib.hid hB
    clear hL hO hB hD
    by_cases hlt : k < s.size
    · have hlt' : (k : Int) < (s.size : Int) := by omega
      have hle' : (k : Int) ≤ (s.size : Int) := by omega
      have hne' : ¬ (k : Int) = (s.size : Int) := by omega
      have hne2 : ¬ k = s.size := by omega
      have hbq : ((k : Int) == (s.size : Int)) = false := by rw [beq_eq_false_iff_ne]; omega
      have hbq2 : (k == s.size) = false := by rw [beq_eq_false_iff_ne]; omega
      have hkl : k < s.data.toList.length := by rw [← hsz.out]; exact hlt
      have HLk := Lib.hid (HL.out (by omega))
      by_cases hc : s[k].toNat = 58
      · have hc10 : s.data.toList[k] = 58 := by
          rw [Pm.u8_eq_iff]; exact hc.trans c58.symm
        have hhit := Lib.hid (splitC_at s.data.toList f k hkl hfk HLk.out.2 hc10)
        have hc' : (s[k].toNat : Int) = 58 := by omega
        have hb58 : ((s[k].toNat : Int) == 58) = true := by rw [beq_iff_eq]; exact hc'
        clear hc10
        have hf' : (f : Int) ≤ (k : Int) := by omega
        go_wp2_with (at_builtin; refine wpList_append_own _ rfl (.tmp 22) (.tmp 27) 42 rfl w.heap.size 9 iS (.string .empty) 1 16 Tryz.underlying42 hS hS0 hS1 hS2 rfl (by decide) _ _ _ rfl (HO.out.alloc _) ⟨_, 0, none⟩ 1 1 [.string (s.extract f k)] rfl rfl (cells_new' _ _ (by simp) [.string (s.extract f k)] _) (by simp [Value.oneCell']) (by simp only [maxLen]; omega) (by omega) (Nat.le_trans HB.out.size (by simp)) ?_; intro v1 w1 ho1 hg1 _; obtain ⟨A1, c1, rfl⟩ := own_form ho1; have HO1 := Lib.hid ho1; have HG1 := Lib.hid hg1; clear ho1 hg1)
        go_roundw
        case rel =>
          refine ⟨A1, c1, L ++ [(s.data.toList.drop f).take (k - f)], k + 1, k + 1, by simp, by go_num, by go_num, by omega, by simp; omega, by omega, fun _ => ⟨?_, by simp⟩, fun h => by omega, ?_, ?_⟩
          · rw [← HLk.out.1, hhit.out]; simp
          · have h := HO1.out
            rw [ext_mid] at h
            simpa using h
          · exact (HB.out.alloc HB.out.size _).grown HG1.out (Nat.le_trans HB.out.size (by simp)) (RS.row_ge HO.out)
        case measure => simp [intOf]; omega
      · have hc10 : s.data.toList[k] ≠ 58 := by
          intro e; rw [Pm.u8_eq_iff] at e; exact hc (e.trans c58)
        have hmo := Lib.hid (take_more58 s.data.toList f k hkl hfk HLk.out.2 hc10)
        have hc' : ¬ (s[k].toNat : Int) = 58 := by omega
        have hb58 : ((s[k].toNat : Int) == 58) = false := by rw [beq_eq_false_iff_ne]; exact hc'
        clear hc10
        go_wp2
        go_roundw
        case rel => exact ⟨A, c, L, f, k + 1, rfl, rfl, by go_num, by omega, hLf, by omega, fun _ => ⟨HLk.out.1, hmo.out⟩, fun h => by omega, HO.out, HB.out⟩
        case measure => simp [intOf]; omega
    · by_cases hka : k = s.size
      · subst hka
        have hle' : (s.size : Int) ≤ (s.size : Int) := by omega
        have HLk := Lib.hid (HL.out (Nat.le_refl _))
        have hf' : (f : Int) ≤ (s.size : Int) := by omega
        have hmiss : Hid (Pm.splitC 58 (s.data.toList.drop f) = [(s.data.toList.drop f).take (s.size - f)]) := Lib.hid (by
          have h := HLk.out.2
          rw [List.take_of_length_le (by rw [List.length_drop, ← hsz.out]; omega)] at h ⊢
          exact splitC_no _ _ h)
        go_wp2_with (at_builtin; refine wpList_append_own _ rfl (.tmp 22) (.tmp 27) 42 rfl w.heap.size 9 iS (.string .empty) 1 16 Tryz.underlying42 hS hS0 hS1 hS2 rfl (by decide) _ _ _ rfl (HO.out.alloc _) ⟨_, 0, none⟩ 1 1 [.string (s.extract f s.size)] rfl rfl (cells_new' _ _ (by simp) [.string (s.extract f s.size)] _) (by simp [Value.oneCell']) (by simp only [maxLen]; omega) (by omega) (Nat.le_trans HB.out.size (by simp)) ?_; intro v1 w1 ho1 hg1 _; obtain ⟨A1, c1, rfl⟩ := own_form ho1; have HO1 := Lib.hid ho1; have HG1 := Lib.hid hg1; clear ho1 hg1)
        go_roundw
        case rel =>
          refine ⟨A1, c1, L ++ [(s.data.toList.drop f).take (s.size - f)], s.size + 1, s.size + 1, by simp, by go_num, by go_num, by omega, by simp; omega, by omega, fun h => by omega, fun _ => ?_, ?_, ?_⟩
          · rw [← HLk.out.1, hmiss.out]
          · have h := HO1.out
            rw [ext_mid] at h
            simpa using h
          · exact (HB.out.alloc HB.out.size _).grown HG1.out (Nat.le_trans HB.out.size (by simp)) (RS.row_ge HO.out)
        case measure => simp [intOf]
      · have hke : k = s.size + 1 := by omega
        subst hke
        have hl := Lib.hid (HDn.out rfl)
        have hnl : ¬ ((s.size : Int) + 1 ≤ (s.size : Int)) := by omega
        go_wp2
        go_ret
        unfold CutPost
        rw [← hl.out]
        exact ⟨A, c, rfl, HO.out, HB.out⟩
end Go.Proofs.YtbhhaehdoiaihaaGreatDoor
