/- The walks of missiveref01.Lower, Same, and of missiveref11.named. -/
import Derived.Test.YtbhhaehdoiaihaaGreatDoorRa
import Derived.Laws.IdiomStrings
namespace Go.Proofs.YtbhhaehdoiaihaaGreatDoor
open Go.RowKit

/-- A new row of bytes that the call itself has made. -/
structure BytesAt (w wr : World) (l : Pm.Bs) : Prop where
  below : Below w.heap.size w wr
  cell : ∀ j (h : j < l.length), wr.cell? ⟨w.heap.size, j, none⟩ = some (.int .u8 (l[j].toNat : Int))
  frz : ∀ j, j < l.length → wr.frozen? ⟨w.heap.size, j, none⟩ = false
theorem bytes_start (s : ByteArray) (w : World) : ∃ cap W1, (convert 9 52 (.string s)).run Tryz.prog w = .ok (.slice (some ⟨w.heap.size, 0, none⟩) s.size cap) W1 ∧ BytesAt w W1 s.data.toList := by
  refine ⟨_, _, run_bytes_of_string w 9 52 5 s Tryz.underlying9 Tryz.underlying52 Tryz.underlying5, ?_, ?_, ?_⟩
  · exact (Below.refl _ _).drew.alloc (Nat.le_refl _) _
  · intro j hj
    have hj' : j < s.data.size := by simpa using hj
    have h1 := World.cell?_alloc_mark w.drew (bytesRow s (grownCap w s.size 0 5)) 5 ((bytesRow s (grownCap w s.size 0 5)).size, (bytesRow s (grownCap w s.size 0 5)).size + 1) j
    rw [bytesRow_at s _ j hj'] at h1
    simpa using h1
  · intro j hj
    have hj' : j < s.data.size := by simpa using hj
    have h1 := World.frozen?_alloc_mark w.drew (bytesRow s (grownCap w s.size 0 5)) 5 (bytesRow s (grownCap w s.size 0 5)).size ((bytesRow s (grownCap w s.size 0 5)).size + 1) j
    have h2 : j < (bytesRow s (grownCap w s.size 0 5)).size := by unfold bytesRow; rw [Array.size_append, Array.size_map]; omega
    refine h1.trans ?_
    rw [decide_eq_false (by omega)]; rfl
theorem BytesAt.set {w wr : World} {l : Pm.Bs} (h : BytesAt w wr l) (k : Nat) (hk : k < l.length) (c : UInt8) (v : Int) (hv : v = c.toNat) : BytesAt w (wr.setCell ⟨w.heap.size, k, none⟩ (.int .u8 v)) (l.set k c) := by
  subst hv
  refine ⟨h.below.setCell (Nat.le_refl _) _, fun j hj => ?_, fun j hj => ?_⟩
  · rw [List.length_set] at hj
    by_cases e : k = j
    · subst e
      rw [World.cell?_setCell_same _ _ _ (h.cell k hk), List.getElem_set_self]
    · rw [World.cell?_setCell_other _ _ _ _ (by simp [e]), h.cell j hj]
      simp [List.getElem_set, e]
  · rw [List.length_set] at hj
    rw [World.frozen?_setCell]
    exact h.frz j hj
theorem BytesAt.back {w wr : World} {l : Pm.Bs} (h : BytesAt w wr l) (n cap : Nat) (hn : n = l.length) : (convert 52 9 (.slice (some ⟨w.heap.size, 0, none⟩) n cap)).run Tryz.prog wr = .ok (.string ⟨l.toArray⟩) wr := by
  subst hn
  refine run_convert_bytes_back wr 52 9 5 ⟨w.heap.size, 0, none⟩ cap l Tryz.underlying52 Tryz.underlying5 Tryz.underlying9 fun j hj => ?_
  have e : (⟨w.heap.size, 0, none⟩ : Addr).add j = ⟨w.heap.size, j, none⟩ := by unfold Addr.add; split <;> simp_all
  rw [e]; exact h.cell j hj

/-- The first k bytes in lower case. -/
def lowK (l : Pm.Bs) (k : Nat) : Pm.Bs := (l.take k).map Pm.lowB ++ l.drop k
theorem lowK_len (l : Pm.Bs) (k : Nat) : (lowK l k).length = l.length := by unfold lowK; simp; omega
theorem lowK_at (l : Pm.Bs) (k : Nat) (h : k < l.length) (h2 : k < (lowK l k).length) : (lowK l k)[k] = l[k] := by
  have e : (lowK l k)[k]? = some l[k] := by
    unfold lowK
    rw [List.getElem?_append_right (by simp; omega)]
    simp [show min k l.length = k by omega]
  exact (List.getElem?_eq_some_iff.1 e).2
theorem lowK_succ (l : Pm.Bs) (k : Nat) (h : k < l.length) : (lowK l k).set k (Pm.lowB l[k]) = lowK l (k + 1) := by
  unfold lowK
  rw [List.set_append_right _ _ (by simp; omega), List.take_succ_eq_append_getElem h, List.map_append, List.append_assoc, List.length_map, List.length_take, show k - min k l.length = 0 by omega, List.drop_eq_getElem_cons h, List.set_cons_zero]
  rfl
theorem lowK_all (l : Pm.Bs) : lowK l l.length = l.map Pm.lowB := by unfold lowK; simp

set_option maxRecDepth 100000 in
set_option maxHeartbeats 1600000 in
theorem rLower_any (s : ByteArray) (hs : s.size ≤ 1073741824) (w : World) :
    Calls Tryz.prog 114 #[.string s] w (StrPost (s.data.toList.map Pm.lowB) w) := by
  unfold StrPost
  obtain ⟨cap, W1, hconv, hB⟩ := bytes_start s w
  have HB := Lib.hid hB
  have hsz := Lib.hid (Lib.size_eq s)
  clear hB
  go_enter Tryz.func114, Tryz.ntmps114
  go_wp2
  clear hconv
  go_loopw [4] (fun i wr => ∃ k : Nat, k ≤ s.size ∧ i = .int .i64 k ∧ BytesAt w wr (lowK s.data.toList k)) (fun i _ => s.size - (intOf i).toNat)
  case atStart => exact ⟨0, by omega, rfl, by have h := HB.out; simpa [lowK] using h⟩
  case round =>
    obtain ⟨k, hk, rfl, hb⟩ := hrel
    have HK := Lib.hid hb
    clear hb
    by_cases hlt : k < s.size
    · have hlt' : (k : Int) < (s.size : Int) := by omega
      have hkl : k < s.data.toList.length := by rw [← hsz.out]; exact hlt
      have hc : wr.cell? ⟨w.heap.size, k, none⟩ = some (.int .u8 (s.data.toList[k].toNat : Int)) := by
        have := HK.out.cell k (by rw [lowK_len]; exact hkl)
        rw [lowK_at _ _ hkl] at this
        exact this
      have hf := HK.out.frz k (by rw [lowK_len]; exact hkl)
      have hn := Lib.hid (HK.out.set k (by rw [lowK_len]; exact hkl) (Pm.lowB s.data.toList[k]) _ rfl)
      rw [lowK_succ _ _ hkl] at hn
      have hl := Lib.hid (fun w => rlower_byte s.data.toList[k] w)
      generalize s.data.toList[k] = c at *
      go_wp2_with (go_at_call 123; refine (hl.out _).mono ?_; rintro e w' ⟨rfl, rfl⟩)
      go_roundw
      case rel => exact ⟨k + 1, by omega, by go_num, hn.out⟩
      case measure => simp [intOf]; omega
    · have hka : k = s.size := by omega
      subst hka
      have hcv := HK.out.back s.size cap (by rw [lowK_len, ← hsz.out])
      have hl := Lib.hid (show lowK s.data.toList s.size = s.data.toList.map Pm.lowB by rw [hsz.out, lowK_all])
      rw [hl.out] at hcv
      have hb := HK.out.below
      generalize hR : s.data.toList.map Pm.lowB = R at hcv
      have HR := Lib.hid hR
      clear HK HB hsz hl hR
      go_wp2
      go_ret
      exact ⟨by rw [HR.out]; rfl, hb⟩

set_option maxRecDepth 100000 in
theorem rSame_any (a b : ByteArray) (ha : a.size ≤ 1073741824) (hb : b.size ≤ 1073741824) (w : World) :
    Calls Tryz.prog 99 #[.string a, .string b] w (BoolPost (Pm.same a.data.toList b.data.toList) w) := by
  have q1 := Lib.hid (rLower_any a ha w)
  have q2 := Lib.hid (fun w => rLower_any b hb w)
  unfold StrPost at q1 q2
  unfold BoolPost Pm.same
  generalize a.data.toList.map Pm.lowB = X at *
  generalize b.data.toList.map Pm.lowB = Y at *
  go_enter Tryz.func99, Tryz.ntmps99
  go_wp2_with (first
    | (have _x := hb1; go_at_call 114; refine (q2.out _).mono ?_; rintro e w2 ⟨rfl, hb⟩; have hb2 := hb1.trans (hb.mono hb1.size); clear hb)
    | (go_at_call 114; refine (q1.out).mono ?_; rintro e w1 ⟨rfl, hb1⟩))
  go_ret
  exact ⟨ret_bool (by simp), hb2⟩
end Go.Proofs.YtbhhaehdoiaihaaGreatDoor
