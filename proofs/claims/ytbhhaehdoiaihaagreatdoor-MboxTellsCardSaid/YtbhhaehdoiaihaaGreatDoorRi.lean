/- The walk of missiveref01.Fields. -/
import Derived.Test.YtbhhaehdoiaihaaGreatDoorRh
namespace Go.Proofs.YtbhhaehdoiaihaaGreatDoor
open Go.RowKit

theorem rwhite_byte (c : UInt8) (w : World) :
    Calls Tryz.prog 97 #[.int .u8 c.toNat] w fun e w' => e = .returned (.bool (Pm.isWhite c)) ∧ w = w' := by
  have h := rwhite_any c.toNat w
  rw [Pm.whiteI_of] at h
  exact h
def FieldsInv (s : ByteArray) (w : World) (v3 v4 : Value) (wr : World) : Prop :=
  ∃ (A : Option Addr) (c : Nat) (L : List Pm.Bs) (f : Nat), v3 = .slice A L.length c ∧ v4 = .int .i64 f ∧ f ≤ s.size ∧ L.length ≤ f ∧
    L ++ Pm.fields (s.data.toList.drop f) = Pm.fields s.data.toList ∧
    wr.ownsRow w.heap.size 9 1 (.slice A L.length c) L.length (L.map strV) ∧ Below w.heap.size w wr

set_option maxRecDepth 100000 in
set_option maxHeartbeats 3200000 in
theorem rfields_any (s : ByteArray) (hs : s.size ≤ 1000000) (w : World) :
    Calls Tryz.prog 70 #[.string s] w (FieldsPost s.data.toList w) := by
  obtain ⟨iS, hS, hS0, hS1, hS2⟩ := info_parts info_str
  have hsz := Lib.hid (Lib.size_eq s)
  have hw := Lib.hid (fun c w => rwhite_byte c w)
  go_enter Tryz.func70, Tryz.ntmps70
  go_wp2
  go_loopw [3, 4, 5] (fun v3 v4 _ wr => FieldsInv s w v3 v4 wr) (fun _ v4 _ _ => s.size - (intOf v4).toNat)
  case atStart => exact ⟨none, 0, [], 0, rfl, rfl, by omega, by simp, by simp, World.ownsRow_nil _ _ _ _, Below.refl _ _⟩
  case round =>
    obtain ⟨A, c, L, f, rfl, rfl, hf, hLf, hL, hO, hB⟩ := hrel
    have HL := Lib.hid hL
    have HO := Lib.hid hO
    have HB := Lib.hid hB
    clear hL hO hB
    by_cases hlt : f < s.size
    · have hlt' : (f : Int) < (s.size : Int) := by omega
      have hkl : f < s.data.toList.length := by rw [← hsz.out]; exact hlt
      have hwf := Lib.hid (fun w => hw.out s[f] w)
      cases hv : Pm.isWhite s[f] with
      | true =>
        rw [hv] at hwf
        have hnx := Lib.hid (show Pm.fields (s.data.toList.drop f) = Pm.fields (s.data.toList.drop (f + 1)) by
          rw [List.drop_eq_getElem_cons hkl]; exact Pm.fields_white _ _ hv)
        clear hv
        go_wp2_with (go_at_call 97; refine (hwf.out _).mono ?_; rintro e w' ⟨rfl, rfl⟩)
        go_roundw
        case rel => exact ⟨A, c, L, f + 1, rfl, by go_num, by omega, by omega, by rw [← hnx.out]; exact HL.out, HO.out, HB.out⟩
        case measure => simp [intOf]; omega
      | false =>
        rw [hv] at hwf
        have HV := Lib.hid hv
        have hst : Hid ((s.data.toList.drop f).takeWhile (! Pm.isWhite ·) = (s.data.toList.drop f).take (f - f) ++ (s.data.toList.drop f).takeWhile (! Pm.isWhite ·)) := Lib.hid (by simp)
        have hfw := Lib.hid (show Pm.fields (s.data.toList.drop f) = (s.data.toList.drop f).takeWhile (! Pm.isWhite ·) :: Pm.fields ((s.data.toList.drop f).dropWhile (! Pm.isWhite ·)) by
          rw [List.drop_eq_getElem_cons hkl]; exact Pm.fields_word _ _ hv)
        clear hv
        go_wp2_with (go_at_call 97; refine (hwf.out _).mono ?_; rintro e w' ⟨rfl, rfl⟩)
        go_loop [5] (fun i => ∃ k : Nat, f ≤ k ∧ k ≤ s.size ∧ i = .int .i64 k ∧ (s.data.toList.drop f).takeWhile (! Pm.isWhite ·) = (s.data.toList.drop f).take (k - f) ++ (s.data.toList.drop k).takeWhile (! Pm.isWhite ·)) (fun i => s.size - (intOf i).toNat)
        case atStart => exact ⟨f, by omega, by omega, rfl, hst.out⟩
        case round =>
          obtain ⟨k, hfk, hk, rfl, htk⟩ := hrel
          have HTK := Lib.hid htk
          clear htk
          by_cases hgo : ∃ h : k < s.size, Pm.isWhite s[k] = false
          · obtain ⟨hlk, hwk⟩ := hgo
            have hlk' : (k : Int) < (s.size : Int) := by omega
            have hkk : k < s.data.toList.length := by rw [← hsz.out]; exact hlk
            have hnx := Lib.hid (take_more s.data.toList f k hfk hkk hwk HTK.out)
            have hwk2 := Lib.hid (fun w => hw.out s[k] w)
            rw [hwk] at hwk2
            clear hwk
            go_wp2_with (go_at_call 97; refine (hwk2.out _).mono ?_; rintro e w' ⟨rfl, rfl⟩)
            go_round
            case rel => exact ⟨k + 1, by omega, by omega, by go_num, hnx.out⟩
            case measure => simp [intOf]; omega
          · have hne : k ≠ f := by
              intro e; subst e; exact hgo ⟨hlt, HV.out⟩
            have hstop : k = s.data.toList.length ∨ ∃ h : k < s.data.toList.length, Pm.isWhite s.data.toList[k] = true := by
              by_cases e : k = s.size
              · left; rw [e]; exact hsz.out
              · right
                have hkk : k < s.data.toList.length := by rw [← hsz.out]; omega
                refine ⟨hkk, ?_⟩
                cases hv2 : Pm.isWhite s.data.toList[k] with
                | true => rfl
                | false => exact absurd ⟨show k < s.size by omega, hv2⟩ hgo
            have hts := take_stop s.data.toList f k hstop HTK.out
            have hds := drop_stop s.data.toList f k hfk (by rw [← hsz.out]; exact hk) hts
            have hfin := Lib.hid (show Pm.fields (s.data.toList.drop f) = (s.data.toList.drop f).take (k - f) :: Pm.fields (s.data.toList.drop k) by rw [hfw.out, hts, hds])
            clear hts hds hstop
            have hf' : (f : Int) ≤ (k : Int) := by omega
            by_cases hlk : k < s.size
            · have hlk' : (k : Int) < (s.size : Int) := by omega
              have hwk2 := Lib.hid (fun w => hw.out s[k] w)
              have hwt : Pm.isWhite s[k] = true := by
                cases hv2 : Pm.isWhite s[k] with
                | true => rfl
                | false => exact absurd ⟨hlk, hv2⟩ hgo
              rw [hwt] at hwk2
              clear hwt hgo
              go_wp2_with (first
                | (go_at_call 97; refine (hwk2.out _).mono ?_; rintro e w' ⟨rfl, rfl⟩)
                | (at_builtin; refine wpList_append_own _ rfl (.tmp 30) (.tmp 35) 42 rfl w.heap.size 9 iS (.string .empty) 1 16 Tryz.underlying42 hS hS0 hS1 hS2 rfl (by decide) _ _ _ rfl (HO.out.alloc _) ⟨_, 0, none⟩ 1 1 [.string (s.extract f k)] rfl rfl (cells_new' _ _ (by simp) [.string (s.extract f k)] _) (by simp [Value.oneCell']) (by simp only [maxLen]; omega) (by omega) (Nat.le_trans HB.out.size (by simp)) ?_; intro v1 w1 ho1 hg1 _; obtain ⟨A1, c1, rfl⟩ := own_form ho1; have HO1 := Lib.hid ho1; have HG1 := Lib.hid hg1; clear ho1 hg1))
              go_roundw
              case rel =>
                refine ⟨A1, c1, L ++ [(s.data.toList.drop f).take (k - f)], k, by simp, rfl, by omega, by simp; omega, ?_, ?_, ?_⟩
                · rw [← HL.out, hfin.out]; simp
                · have h := HO1.out
                  rw [ext_mid] at h
                  simpa using h
                · exact (HB.out.alloc HB.out.size _).grown HG1.out (Nat.le_trans HB.out.size (by simp)) (RS.row_ge HO.out)
              case measure => simp [intOf]; omega
            · have hke : k = s.size := by omega
              subst hke
              clear hgo
              go_wp2_with (at_builtin; refine wpList_append_own _ rfl (.tmp 30) (.tmp 35) 42 rfl w.heap.size 9 iS (.string .empty) 1 16 Tryz.underlying42 hS hS0 hS1 hS2 rfl (by decide) _ _ _ rfl (HO.out.alloc _) ⟨_, 0, none⟩ 1 1 [.string (s.extract f s.size)] rfl rfl (cells_new' _ _ (by simp) [.string (s.extract f s.size)] _) (by simp [Value.oneCell']) (by simp only [maxLen]; omega) (by omega) (Nat.le_trans HB.out.size (by simp)) ?_; intro v1 w1 ho1 hg1 _; obtain ⟨A1, c1, rfl⟩ := own_form ho1; have HO1 := Lib.hid ho1; have HG1 := Lib.hid hg1; clear ho1 hg1)
              go_roundw
              case rel =>
                refine ⟨A1, c1, L ++ [(s.data.toList.drop f).take (s.size - f)], s.size, by simp, rfl, by omega, by simp; omega, ?_, ?_, ?_⟩
                · rw [← HL.out, hfin.out]; simp
                · have h := HO1.out
                  rw [ext_mid] at h
                  simpa using h
                · exact (HB.out.alloc HB.out.size _).grown HG1.out (Nat.le_trans HB.out.size (by simp)) (RS.row_ge HO.out)
              case measure => simp [intOf]; omega
    · have hke : f = s.size := by omega
      subst hke
      have hl := Lib.hid HL.out
      rw [hsz.out, List.drop_length, show Pm.fields [] = [] from rfl, List.append_nil] at hl
      go_wp2
      go_ret
      unfold FieldsPost
      rw [← hl.out]
      exact ⟨_, rfl, HO.out, HB.out⟩
end Go.Proofs.YtbhhaehdoiaihaaGreatDoor
