/- The walks of missiveref16.Content and missivelaw16.ends. -/
import Derived.Test.YtbhhaehdoiaihaaGreatDoorWo
import Derived.Test.YtbhhaehdoiaihaaGreatDoorQc
namespace Go.Proofs.YtbhhaehdoiaihaaGreatDoor
open Go.RowKit

namespace Pm
theorem suffix_snoc (L : Bs) (x k : UInt8) : Lib.hasSuffix (L ++ [x]) [k] = (k == x) := by
  unfold Lib.hasSuffix
  simp [List.isSuffixOf, List.isPrefixOf]
theorem trim_snoc (L : Bs) (k : UInt8) : Lib.trimSuffix (L ++ [k]) [k] = L := by
  unfold Lib.trimSuffix
  rw [suffix_snoc]; simp
theorem trim_other (L : Bs) (x k : UInt8) (h : k ≠ x) : Lib.trimSuffix (L ++ [x]) [k] = L ++ [x] := by
  unfold Lib.trimSuffix
  rw [suffix_snoc]; simp [h]
theorem content_nil : content [] = [] := by decide
theorem content_other (L : Bs) (x : UInt8) (h : 10 ≠ x) : content (L ++ [x]) = L ++ [x] := by
  unfold content
  rw [suffix_snoc, if_neg (by simp [h])]
theorem content_lf (L : Bs) : content (L ++ [10]) = Lib.trimSuffix L [13] := by
  unfold content
  rw [suffix_snoc, if_pos (by simp), trim_snoc]
theorem content_crlf (L : Bs) : content (L ++ [13] ++ [10]) = L := by rw [content_lf, trim_snoc]
theorem content_lf_other (L : Bs) (x : UInt8) (h : 13 ≠ x) : content (L ++ [x] ++ [10]) = L ++ [x] := by rw [content_lf, trim_other _ _ _ h]
end Pm

set_option maxRecDepth 100000 in
set_option maxHeartbeats 1600000 in
theorem content_walk1 (s : ByteArray) (hs : s.size ≤ 1073741824) (h0 : 0 < s.size) (hc : ¬ (s[s.size - 1].toNat : Int) = 10) (w : World) :
    Calls Tryz.prog 27 #[.string s] w fun e w' => e = .returned (.string s) ∧ w = w' := by
  have h0' : 0 < (s.size : Int) := by omega
  go_enter Tryz.func27, Tryz.ntmps27
  go_wp2
  go_ret
  exact ⟨rfl, rfl⟩
theorem ext_lt (s : ByteArray) (h0 : 1 < s.size) : s.size - 1 - 1 < (s.extract 0 (s.size - 1)).size := by rw [ByteArray.size_extract]; omega
set_option maxRecDepth 100000 in
set_option maxHeartbeats 1600000 in
theorem content_walk2 (s : ByteArray) (hs : s.size ≤ 1073741824) (h0 : 1 < s.size) (hc : (s[s.size - 1].toNat : Int) = 10) (hd : ¬ ((s.extract 0 (s.size - 1))[s.size - 1 - 1]'(ext_lt s h0)).toNat = 13) (w : World) :
    Calls Tryz.prog 27 #[.string s] w fun e w' => e = .returned (.string (s.extract 0 (s.size - 1))) ∧ w = w' := by
  have h0' : 0 < (s.size : Int) := by omega
  have hd' : ¬ (((s.extract 0 (s.size - 1))[s.size - 1 - 1]'(ext_lt s h0)).toNat : Int) = 13 := by omega
  go_enter Tryz.func27, Tryz.ntmps27
  go_wp2
  go_ret
  exact ⟨rfl, rfl⟩
set_option maxRecDepth 100000 in
set_option maxHeartbeats 1600000 in
theorem content_walk3 (s : ByteArray) (hs : s.size ≤ 1073741824) (h0 : 1 < s.size) (hc : (s[s.size - 1].toNat : Int) = 10) (hd : ((s.extract 0 (s.size - 1))[s.size - 1 - 1]'(ext_lt s h0)).toNat = 13) (w : World) :
    Calls Tryz.prog 27 #[.string s] w fun e w' => e = .returned (.string ((s.extract 0 (s.size - 1)).extract 0 (s.size - 1 - 1))) ∧ w = w' := by
  have h0' : 0 < (s.size : Int) := by omega
  have hd' : (((s.extract 0 (s.size - 1))[s.size - 1 - 1]'(ext_lt s h0)).toNat : Int) = 13 := by omega
  go_enter Tryz.func27, Tryz.ntmps27
  go_wp2
  go_ret
  exact ⟨rfl, rfl⟩
theorem at_list (l : Pm.Bs) (k : Nat) (h : k < (⟨l.toArray⟩ : ByteArray).size) (h2 : k < l.length) : (⟨l.toArray⟩ : ByteArray)[k] = l[k] := by
  show l.toArray[k]'_ = l[k]
  simp
theorem ext_list (l : Pm.Bs) (n : Nat) : (⟨l.toArray⟩ : ByteArray).extract 0 n = ⟨(l.take n).toArray⟩ := by
  rw [Lib.extract_eq]; simp
theorem last_snoc (L : Pm.Bs) (x : UInt8) (k : Nat) (hk : k = L.length) (h : k < (⟨(L ++ [x]).toArray⟩ : ByteArray).size) : (⟨(L ++ [x]).toArray⟩ : ByteArray)[k] = x := by
  subst hk
  rw [at_list _ _ h (by simp)]; simp

theorem snoc_or (l : Pm.Bs) : l = [] ∨ ∃ L x, l = L ++ [x] := by
  rcases List.eq_nil_or_concat l with h | ⟨L, x, h⟩
  · exact .inl h
  · exact .inr ⟨L, x, by rw [h, List.concat_eq_append]⟩
theorem content_walk2' (s t : ByteArray) (hs : s.size ≤ 1073741824) (h0 : 1 < s.size) (hc : s[s.size - 1] = 10) (ht : s.extract 0 (s.size - 1) = t) (y : UInt8) (hd : ∀ h : s.size - 1 - 1 < t.size, t[s.size - 1 - 1] = y) (hy : y ≠ 13) (w : World) :
    Calls Tryz.prog 27 #[.string s] w fun e w' => e = .returned (.string t) ∧ w = w' := by
  subst ht
  refine content_walk2 s hs h0 (by rw [hc]; rfl) ?_ w
  rw [hd]
  intro e; exact hy ((Pm.u8_eq_iff y 13).2 e)
theorem content_walk3' (s t : ByteArray) (hs : s.size ≤ 1073741824) (h0 : 1 < s.size) (hc : s[s.size - 1] = 10) (ht : s.extract 0 (s.size - 1) = t) (hd : ∀ h : s.size - 1 - 1 < t.size, t[s.size - 1 - 1] = 13) (w : World) :
    Calls Tryz.prog 27 #[.string s] w fun e w' => e = .returned (.string (t.extract 0 (s.size - 1 - 1))) ∧ w = w' := by
  subst ht
  refine content_walk3 s hs h0 (by rw [hc]; rfl) ?_ w
  rw [hd]; rfl
theorem refContent_any (l : Pm.Bs) (hs : l.length ≤ 1073741824) (w : World) :
    Calls Tryz.prog 27 #[.string ⟨l.toArray⟩] w fun e w' => e = .returned (.string ⟨(Pm.content l).toArray⟩) ∧ w = w' := by
  have hz : (⟨l.toArray⟩ : ByteArray).size = l.length := by rw [Lib.size_eq]
  rcases snoc_or l with rfl | ⟨L, x, rfl⟩
  · rw [Pm.content_nil]
    go_enter Tryz.func27, Tryz.ntmps27
    go_wp2
    go_ret
    exact ⟨rfl, rfl⟩
  have hl : (L ++ [x]).length = L.length + 1 := by simp
  rw [hl] at hz hs
  have hx := last_snoc L x ((⟨(L ++ [x]).toArray⟩ : ByteArray).size - 1) (by omega) (by omega)
  have hE : (⟨(L ++ [x]).toArray⟩ : ByteArray).extract 0 ((⟨(L ++ [x]).toArray⟩ : ByteArray).size - 1) = ⟨L.toArray⟩ := by
    rw [hz, ext_list]; congr 2; simp
  by_cases h10 : x = 10
  · subst h10
    rcases snoc_or L with rfl | ⟨M, y, rfl⟩
    · have e0 : Pm.content ([] ++ [10]) = [] := by decide
      rw [e0]
      go_enter Tryz.func27, Tryz.ntmps27
      go_wp2
      go_ret
      exact ⟨rfl, rfl⟩
    have hl2 : (M ++ [y]).length = M.length + 1 := by simp
    rw [hl2] at hz hs
    have hy : ∀ h : (⟨(M ++ [y] ++ [10]).toArray⟩ : ByteArray).size - 1 - 1 < (⟨(M ++ [y]).toArray⟩ : ByteArray).size, (⟨(M ++ [y]).toArray⟩ : ByteArray)[(⟨(M ++ [y] ++ [10]).toArray⟩ : ByteArray).size - 1 - 1] = y :=
      fun h => last_snoc M y _ (by omega) h
    by_cases h13 : y = 13
    · subst h13
      rw [Pm.content_crlf]
      have hq := content_walk3' _ _ (by omega) (by omega) hx hE hy w
      rw [ext_list] at hq
      have e3 : (M ++ [13]).take ((⟨(M ++ [13] ++ [10]).toArray⟩ : ByteArray).size - 1 - 1) = M := by rw [hz]; simp
      rw [e3] at hq
      exact hq
    · rw [Pm.content_lf_other M y (Ne.symm h13)]
      exact content_walk2' _ _ (by omega) (by omega) hx hE y hy h13 w
  · rw [Pm.content_other L x (Ne.symm h10)]
    refine content_walk1 _ (by omega) (by omega) ?_ w
    rw [hx]
    intro e; exact h10 ((Pm.u8_eq_iff x 10).2 (by have e1 : (10 : UInt8).toNat = 10 := rfl; omega))
end Go.Proofs.YtbhhaehdoiaihaaGreatDoor
