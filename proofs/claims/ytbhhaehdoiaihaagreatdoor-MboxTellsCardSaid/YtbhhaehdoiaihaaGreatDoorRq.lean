/- The walk of missiveref16.raw. -/
import Derived.Test.YtbhhaehdoiaihaaGreatDoorRp
import Derived.Lib.AppendStr
import Derived.Laws.BytesArg
namespace Go.Proofs.YtbhhaehdoiaihaaGreatDoor
open Go.RowKit

/-- A slice of strings in memory. -/
def StrS (w : World) (A : Option Addr) (L : List Pm.Bs) : Prop := L.length = 0 ∨ ∃ g o, A = some ⟨g, o, none⟩ ∧ ∀ j (h : j < L.length), w.cell? ⟨g, o + j, none⟩ = some (strV L[j])
theorem StrS.up {w w' : World} {A : Option Addr} {L : List Pm.Bs} (h : StrS w A L) (hb : Below w.heap.size w w') : StrS w' A L := by
  rcases h with h | ⟨g, o, e, h⟩
  · exact .inl h
  · exact .inr ⟨g, o, e, fun j hj => cell_up hb (h j hj)⟩
theorem info_u8 : (Tryz.prog.info? 5).map (fun i => (i.zero, i.size, i.bytes)) = some (some (.int .u8 0), 1, 1) := by kernel_rfl
/-- The cells of bytes. -/
def bc (l : Pm.Bs) : List Value := l.map fun b => Value.int .u8 b.toNat
theorem bc_str (l : Pm.Bs) : Lib.strCells ⟨l.toArray⟩ = bc l := rfl
theorem bc_app (a b : Pm.Bs) : bc (a ++ b) = bc a ++ bc b := by unfold bc; rw [List.map_append]
theorem own_string {w : World} {base : Nat} {v : Value} {n : Nat} {l : Pm.Bs} (h : w.ownsRow base 5 1 v n (bc l)) (hn : n = l.length) : (convert 52 9 v).run Tryz.prog w = .ok (.string ⟨l.toArray⟩) w := by
  subst hn
  have h0 := h
  rcases h.2 with ⟨rfl, h1⟩ | ⟨g, cap, cur, rfl, _⟩
  · have : l = [] := List.eq_nil_of_length_eq_zero h1
    subst this
    exact run_convert_bytes_nil w 52 5 Tryz.underlying52 Tryz.underlying5 0 0 9 Tryz.underlying9
  · refine run_convert_bytes_back w 52 9 5 ⟨g, 0, none⟩ cap l Tryz.underlying52 Tryz.underlying5 Tryz.underlying9 fun j hj => ?_
    have e : (⟨g, 0, none⟩ : Addr).add j = ⟨g, j, none⟩ := by unfold Addr.add; split <;> simp_all
    rw [e, h0.cellAt j (by omega)]
    unfold bc
    simp [hj]
theorem flat_take (L : List Pm.Bs) (k : Nat) (h : k < L.length) : (L.take (k + 1)).flatMap Pm.unmark = (L.take k).flatMap Pm.unmark ++ Pm.unmark L[k] := by
  rw [List.take_succ_eq_append_getElem h, List.flatMap_append]; simp
theorem unm_le (l : Pm.Bs) : (Pm.unmark l).length ≤ l.length := by
  rw [unmark_marks]; split <;> simp
theorem flt_le (L : List Pm.Bs) : (L.flatMap Pm.unmark).length ≤ L.flatten.length := by
  induction L with
  | nil => simp
  | cons a L ih => have := unm_le a; simp only [List.flatMap_cons, List.flatten_cons, List.length_append]; omega
theorem take_flat_le (L : List Pm.Bs) (k : Nat) : (L.take k).flatten.length ≤ L.flatten.length := by
  conv => rhs; rw [← List.take_append_drop k L]
  rw [List.flatten_append, List.length_append]; omega
theorem mem_flat_le (L : List Pm.Bs) (k : Nat) (h : k < L.length) : L[k].length ≤ L.flatten.length :=
  (List.sublist_flatten_of_mem (List.getElem_mem h)).length_le

def RawInv (w : World) (LP : List Pm.Bs) (v3 v4 : Value) (wr : World) : Prop :=
  ∃ k : Nat, k ≤ LP.length ∧ v4 = .int .i64 k ∧ wr.ownsRow w.heap.size 5 1 v3 ((LP.take k).flatMap Pm.unmark).length (bc ((LP.take k).flatMap Pm.unmark)) ∧ Below w.heap.size w wr

set_option maxRecDepth 100000 in
set_option maxHeartbeats 3200000 in
theorem raw_keep (A : Option Addr) (c : Nat) (M : List Pm.Bs) (x : Pm.Bs) (hc : M.length + 1 ≤ c) (hcm : M.length + 1 ≤ 1000000) (w : World) (hS : StrS w A (M ++ [x])) (hsz : (M ++ [x]).flatten.length ≤ 1000000) (hbl : Pm.blank x = false) :
    Calls Tryz.prog 30 #[.slice A (M.length + 1) c] w (StrPost ((M ++ [x]).flatMap Pm.unmark) w) := by
  unfold StrPost
  obtain ⟨i0, hi, hz0, hz1, hz2⟩ := info_parts info_u8
  obtain ⟨g, o, rfl, hcell⟩ : ∃ g o, A = some ⟨g, o, none⟩ ∧ ∀ j (h : j < (M ++ [x]).length), w.cell? ⟨g, o + j, none⟩ = some (strV (M ++ [x])[j]) := by
    rcases hS with h | h
    · simp at h
    · exact h
  have hlx : x.length ≤ 1000000 := by simp at hsz; omega
  have hcon := Lib.hid (fun w => refContent_any x (by omega) w)
  have q0 : w.cell? ⟨g, o + M.length, none⟩ = some (.string ⟨x.toArray⟩) := by
    have := hcell M.length (by simp); simpa using this
  have hbe : (Pm.content x).isEmpty = false := hbl
  generalize hLP : M ++ [x] = LP at *
  have hlen : LP.length = M.length + 1 := by rw [← hLP]; simp
  have HC := Lib.hid hcell
  have HSZ := Lib.hid hsz
  have hMl : (M.length : Int) ≤ 1000000 := by omega
  clear hcell hsz hS hLP hbl
  go_enter Tryz.func30, Tryz.ntmps30
  go_wp2_with (go_at_call 27; refine (hcon.out _).mono ?_; rintro e w' ⟨rfl, rfl⟩)
  go_loopw [3, 4, 5] (fun v3 v4 _ wr => RawInv w LP v3 v4 wr) (fun _ v4 _ _ => LP.length - (intOf v4).toNat)
  case atStart => exact ⟨0, by omega, rfl, by simpa [bc] using World.ownsRow_nil _ _ _ _, Below.refl _ _⟩
  case round =>
    obtain ⟨k, hk, rfl, hO, hB⟩ := hrel
    have HO := Lib.hid hO
    have HB := Lib.hid hB
    clear hO hB
    by_cases hlt : k < LP.length
    · have hlt' : (k : Int) < (M.length : Int) + 1 := by omega
      have q1 := cell_up HB.out (HC.out k hlt)
      have hxl := mem_flat_le LP k hlt
      have hst := Lib.hid (flat_take LP k hlt)
      have hum := unmark_marks LP[k]
      have f1 := flt_le (LP.take k)
      have f2 := take_flat_le LP k
      have f3 := HSZ.out
      have hmk := Lib.hid (fun w => marks_any ⟨LP[k].toArray⟩ (by rw [Lib.size_eq]; show LP[k].length ≤ _; omega) w)
      have dl : (⟨LP[k].toArray⟩ : ByteArray).data.toList = LP[k] := rfl
      rw [dl] at hmk
      clear dl
      generalize LP[k] = y at *
      have XD := drop_take_size' y 1
      generalize hn : marksI y = n at *
      by_cases hpos : 0 < n
      · rw [if_pos hpos] at hum
        have HU := Lib.hid hum
        have yl : 1 ≤ y.length := by
          cases y with
          | nil => rw [← hn] at hpos; simp [marksI, Pm.marked, Lib.trimLeftB, Lib.hasPrefix, Pm.fromB, List.isPrefixOf] at hpos
          | cons a r => simp
        have yl' : (1 : Int) ≤ (y.length : Int) := by omega
        have dl : (y.drop 1).length ≤ y.length := by simp
        clear hum hn
        generalize y.drop 1 = z at *
        go_wp2_with (first
          | (go_at_call 28; refine (hmk.out _).mono ?_; rintro e w' ⟨rfl, rfl⟩)
          | (at_builtin; refine Lib.wpList_append_own_string _ rfl (.tmp 39) (.tmp 40) 52 9 rfl w.heap.size 5 i0 Tryz.underlying52 Tryz.underlying9 hi hz0 hz1 hz2 _ _ _ rfl HO.out ⟨(z).toArray⟩ rfl (by rw [Lib.size_eq]; simp only [maxLen]; show _ + (z).length ≤ _; omega) (by rw [Lib.size_eq]; show _ + (z).length ≤ _; omega) HB.out.size ?_; intro v8 w8 ho hg _; have HO8 := Lib.hid ho; have HB8 := Lib.hid (HB.out.grown hg HB.out.size (RS.row_ge HO.out)); clear ho hg))
        go_roundw
        case rel =>
          refine ⟨k + 1, by omega, by go_num, ?_, HB8.out⟩
          rw [hst.out, HU.out, bc_app, List.length_append]
          have h := HO8.out
          rw [bc_str, Lib.size_eq] at h
          exact h
        case measure => simp [intOf]; omega
      · rw [if_neg hpos] at hum
        have HU := Lib.hid hum
        clear hum hn XD
        go_wp2_with (first
          | (go_at_call 28; refine (hmk.out _).mono ?_; rintro e w' ⟨rfl, rfl⟩)
          | (at_builtin; refine Lib.wpList_append_own_string _ rfl (.tmp 39) (.tmp 40) 52 9 rfl w.heap.size 5 i0 Tryz.underlying52 Tryz.underlying9 hi hz0 hz1 hz2 _ _ _ rfl HO.out ⟨(y).toArray⟩ rfl (by rw [Lib.size_eq]; simp only [maxLen]; show _ + (y).length ≤ _; omega) (by rw [Lib.size_eq]; show _ + (y).length ≤ _; omega) HB.out.size ?_; intro v8 w8 ho hg _; have HO8 := Lib.hid ho; have HB8 := Lib.hid (HB.out.grown hg HB.out.size (RS.row_ge HO.out)); clear ho hg))
        go_roundw
        case rel =>
          refine ⟨k + 1, by omega, by go_num, ?_, HB8.out⟩
          rw [hst.out, HU.out, bc_app, List.length_append]
          have h := HO8.out
          rw [bc_str, Lib.size_eq] at h
          exact h
        case measure => simp [intOf]; omega
    · have hke : k = LP.length := by omega
      subst hke
      have hnl : ¬ ((LP.length : Int) < (M.length : Int) + 1) := by omega
      have ho := HO.out
      rw [List.take_length] at ho
      have hcv := own_string ho rfl
      have hb := HB.out
      clear HO ho
      go_wp2
      go_ret
      exact ⟨rfl, hb⟩
set_option maxRecDepth 100000 in
set_option maxHeartbeats 3200000 in
theorem raw_drop (A : Option Addr) (c : Nat) (M : List Pm.Bs) (x : Pm.Bs) (hc : M.length + 1 ≤ c) (hcm : M.length + 1 ≤ 1000000) (w : World) (hS : StrS w A (M ++ [x])) (hsz : (M ++ [x]).flatten.length ≤ 1000000) (hbl : Pm.blank x = true) :
    Calls Tryz.prog 30 #[.slice A (M.length + 1) c] w (StrPost (M.flatMap Pm.unmark) w) := by
  unfold StrPost
  obtain ⟨i0, hi, hz0, hz1, hz2⟩ := info_parts info_u8
  obtain ⟨g, o, rfl, hcell⟩ : ∃ g o, A = some ⟨g, o, none⟩ ∧ ∀ j (h : j < (M ++ [x]).length), w.cell? ⟨g, o + j, none⟩ = some (strV (M ++ [x])[j]) := by
    rcases hS with h | h
    · simp at h
    · exact h
  have hlx : x.length ≤ 1000000 := by simp at hsz; omega
  have hcon := Lib.hid (fun w => refContent_any x (by omega) w)
  have q0 : w.cell? ⟨g, o + M.length, none⟩ = some (.string ⟨x.toArray⟩) := by
    have := hcell M.length (by simp); simpa using this
  have hbe : (Pm.content x).isEmpty = true := hbl
  obtain ⟨LP, hLP⟩ : ∃ LP, LP = M := ⟨M, rfl⟩
  have HC : Hid (∀ j (h : j < LP.length), w.cell? ⟨g, o + j, none⟩ = some (strV LP[j])) := Lib.hid fun j hj => by
    subst hLP
    have := hcell j (by simp; omega)
    simpa [List.getElem_append_left hj] using this
  have HSZ : Hid (LP.flatten.length ≤ 1000000) := Lib.hid (by subst hLP; rw [List.flatten_append, List.length_append] at hsz; omega)
  have hlen : LP.length = M.length := by rw [hLP]
  rw [← hLP]
  have hMl : (M.length : Int) ≤ 1000000 := by omega
  have hnc : ¬ c = 0 := by omega
  have hMc : (M.length : Int) ≤ c := by omega
  clear hcell hsz hS hLP hbl
  go_enter Tryz.func30, Tryz.ntmps30
  go_wp2_with (go_at_call 27; refine (hcon.out _).mono ?_; rintro e w' ⟨rfl, rfl⟩)
  go_loopw [3, 4, 5] (fun v3 v4 _ wr => RawInv w LP v3 v4 wr) (fun _ v4 _ _ => LP.length - (intOf v4).toNat)
  case atStart => exact ⟨0, by omega, rfl, by simpa [bc] using World.ownsRow_nil _ _ _ _, Below.refl _ _⟩
  case round =>
    obtain ⟨k, hk, rfl, hO, hB⟩ := hrel
    have HO := Lib.hid hO
    have HB := Lib.hid hB
    clear hO hB
    by_cases hlt : k < LP.length
    · have hlt' : (k : Int) < (M.length : Int) := by omega
      have q1 := cell_up HB.out (HC.out k hlt)
      have hxl := mem_flat_le LP k hlt
      have hst := Lib.hid (flat_take LP k hlt)
      have hum := unmark_marks LP[k]
      have f1 := flt_le (LP.take k)
      have f2 := take_flat_le LP k
      have f3 := HSZ.out
      have hmk := Lib.hid (fun w => marks_any ⟨LP[k].toArray⟩ (by rw [Lib.size_eq]; show LP[k].length ≤ _; omega) w)
      have dl : (⟨LP[k].toArray⟩ : ByteArray).data.toList = LP[k] := rfl
      rw [dl] at hmk
      clear dl
      generalize LP[k] = y at *
      have XD := drop_take_size' y 1
      generalize hn : marksI y = n at *
      by_cases hpos : 0 < n
      · rw [if_pos hpos] at hum
        have HU := Lib.hid hum
        have yl : 1 ≤ y.length := by
          cases y with
          | nil => rw [← hn] at hpos; simp [marksI, Pm.marked, Lib.trimLeftB, Lib.hasPrefix, Pm.fromB, List.isPrefixOf] at hpos
          | cons a r => simp
        have yl' : (1 : Int) ≤ (y.length : Int) := by omega
        have dl : (y.drop 1).length ≤ y.length := by simp
        clear hum hn
        generalize y.drop 1 = z at *
        go_wp2_with (first
          | (go_at_call 28; refine (hmk.out _).mono ?_; rintro e w' ⟨rfl, rfl⟩)
          | (at_builtin; refine Lib.wpList_append_own_string _ rfl (.tmp 39) (.tmp 40) 52 9 rfl w.heap.size 5 i0 Tryz.underlying52 Tryz.underlying9 hi hz0 hz1 hz2 _ _ _ rfl HO.out ⟨(z).toArray⟩ rfl (by rw [Lib.size_eq]; simp only [maxLen]; show _ + (z).length ≤ _; omega) (by rw [Lib.size_eq]; show _ + (z).length ≤ _; omega) HB.out.size ?_; intro v8 w8 ho hg _; have HO8 := Lib.hid ho; have HB8 := Lib.hid (HB.out.grown hg HB.out.size (RS.row_ge HO.out)); clear ho hg))
        go_roundw
        case rel =>
          refine ⟨k + 1, by omega, by go_num, ?_, HB8.out⟩
          rw [hst.out, HU.out, bc_app, List.length_append]
          have h := HO8.out
          rw [bc_str, Lib.size_eq] at h
          exact h
        case measure => simp [intOf]; omega
      · rw [if_neg hpos] at hum
        have HU := Lib.hid hum
        clear hum hn XD
        go_wp2_with (first
          | (go_at_call 28; refine (hmk.out _).mono ?_; rintro e w' ⟨rfl, rfl⟩)
          | (at_builtin; refine Lib.wpList_append_own_string _ rfl (.tmp 39) (.tmp 40) 52 9 rfl w.heap.size 5 i0 Tryz.underlying52 Tryz.underlying9 hi hz0 hz1 hz2 _ _ _ rfl HO.out ⟨(y).toArray⟩ rfl (by rw [Lib.size_eq]; simp only [maxLen]; show _ + (y).length ≤ _; omega) (by rw [Lib.size_eq]; show _ + (y).length ≤ _; omega) HB.out.size ?_; intro v8 w8 ho hg _; have HO8 := Lib.hid ho; have HB8 := Lib.hid (HB.out.grown hg HB.out.size (RS.row_ge HO.out)); clear ho hg))
        go_roundw
        case rel =>
          refine ⟨k + 1, by omega, by go_num, ?_, HB8.out⟩
          rw [hst.out, HU.out, bc_app, List.length_append]
          have h := HO8.out
          rw [bc_str, Lib.size_eq] at h
          exact h
        case measure => simp [intOf]; omega
    · have hke : k = LP.length := by omega
      subst hke
      have hnl : ¬ ((LP.length : Int) < (M.length : Int)) := by omega
      have ho := HO.out
      rw [List.take_length] at ho
      have hcv := own_string ho rfl
      have hb := HB.out
      clear HO ho
      go_wp2
      go_ret
      exact ⟨rfl, hb⟩

set_option maxRecDepth 100000 in
set_option maxHeartbeats 1600000 in
theorem raw_empty (A : Option Addr) (c : Nat) (w : World) : Calls Tryz.prog 30 #[.slice A 0 c] w (StrPost [] w) := by
  unfold StrPost
  have hcv := fun w => run_convert_bytes_nil (P := Tryz.prog) w 52 5 Tryz.underlying52 Tryz.underlying5 0 0 9 Tryz.underlying9
  go_enter Tryz.func30, Tryz.ntmps30
  go_wp2
  go_loopw [3, 4, 5] (fun v3 v4 _ wr => v3 = .slice none 0 0 ∧ v4 = .int .i64 0 ∧ wr = w) (fun _ _ _ _ => 0)
  case atStart => exact ⟨rfl, rfl, rfl⟩
  case round =>
    obtain ⟨rfl, rfl, rfl⟩ := hrel
    go_wp2
    go_ret
    exact ⟨rfl, Below.refl _ _⟩
theorem raw_any (A : Option Addr) (c : Nat) (L : List Pm.Bs) (hc : L.length ≤ c) (hcm : L.length ≤ 1000000) (w : World) (hS : StrS w A L) (hsz : L.flatten.length ≤ 1000000) :
    Calls Tryz.prog 30 #[.slice A L.length c] w (StrPost (Pm.rawOf L) w) := by
  unfold Pm.rawOf Pm.dropBlank
  rcases List.eq_nil_or_concat L with rfl | ⟨M, x, rfl⟩
  · exact raw_empty A c w
  · rw [List.concat_eq_append] at *
    have hl : (M ++ [x]).length = M.length + 1 := by simp
    rw [hl] at hc hcm ⊢
    rw [List.getLast?_concat]
    dsimp only
    by_cases hb : Pm.blank x = true
    · rw [if_pos hb, List.dropLast_concat]
      exact raw_drop A c M x hc hcm w hS hsz hb
    · rw [if_neg hb]
      exact raw_keep A c M x hc hcm w hS hsz (by simpa using hb)
end Go.Proofs.YtbhhaehdoiaihaaGreatDoor
