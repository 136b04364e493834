/- The walk of mbox.finish. -/
import Derived.Test.YtbhhaehdoiaihaaGreatDoorWh
import Derived.Lib.Builder
import Derived.Lib.UnsafeStr
import Derived.Lib.AppendStr
import Derived.Lib.AppendIntMem
import Derived.Deep.AppendLies
import Derived.Laws.OwnMore
namespace Go.Proofs.YtbhhaehdoiaihaaGreatDoor
open Go.RowKit

theorem unmark_plain (c : UInt8) (r : Pm.Bs) (h : ¬ (c = 62 ∧ Pm.marked (c :: r) = true)) : Pm.unmark (c :: r) = c :: r := by
  exact if_neg h
theorem unmark_hit (c : UInt8) (r : Pm.Bs) (h : c = 62) (h2 : Pm.marked (c :: r) = true) : Pm.unmark (c :: r) = r := by
  exact if_pos ⟨h, h2⟩
theorem unmark_le (l : Pm.Bs) : (Pm.unmark l).length ≤ l.length := by
  unfold Pm.unmark
  split
  · simp
  · split <;> simp
theorem flat_snoc (L : List Pm.Bs) (k : Nat) (h : k < L.length) : (L.take (k + 1)).flatMap Pm.unmark = (L.take k).flatMap Pm.unmark ++ Pm.unmark L[k] := by
  rw [List.take_succ_eq_append_getElem h, List.flatMap_append]; simp
theorem flatten_mem (L : List Pm.Bs) : ∀ l ∈ L, l.length ≤ L.flatten.length := by
  induction L with
  | nil => simp
  | cons a L ih =>
    intro l hl
    rw [List.flatten_cons, List.length_append]
    rcases List.mem_cons.1 hl with rfl | hl
    · omega
    · have := ih l hl; omega
theorem flat_le (L : List Pm.Bs) : (L.flatMap Pm.unmark).length ≤ L.flatten.length := by
  induction L with
  | nil => simp
  | cons a L ih =>
    rw [List.flatMap_cons, List.flatten_cons, List.length_append, List.length_append]
    have := unmark_le a; omega
theorem take_flatten_le (L : List Pm.Bs) (k : Nat) : (L.take k).flatten.length ≤ L.flatten.length := by
  have h : L.flatten = (L.take k).flatten ++ (L.drop k).flatten := by rw [← List.flatten_append, List.take_append_drop]
  rw [h, List.length_append]; omega

/-- What finish does to the world: new blocks, and the last entry's third cell. -/
def FinPost (g k : Nat) (raw : Pm.Bs) (w : World) (e : Ending) (w' : World) : Prop :=
  e = .returned (.tuple #[]) ∧ ∃ w1, Below w.heap.size w w1 ∧ w' = w1.setCell ⟨g, k * 3 + 2, none⟩ (.string ⟨raw.toArray⟩)

/-- The round over the lines, and what stands behind it. -/
theorem finish_nil (A : Option Addr) (n cap : Nat) (c : Nat) (A2 : Option Addr) (m : Nat) (hn : n = 0) (w : World) :
    Calls Tryz.prog 23 #[.slice A n cap, .slice A2 m c] w fun e w' => e = .returned (.tuple #[]) ∧ w = w' := by
  subst hn
  go_enter Tryz.func23, Tryz.ntmps23
  go_wp2
  refine bodyPost_ret (results_none rfl _ _ _) rfl ?_
  exact ⟨rfl, rfl⟩

set_option maxHeartbeats 1600000 in
theorem finish_c (g k cap gl j cl B B2 : Nat) (xs : List Value) (L : List Pm.Bs) (x : Pm.Bs) (w : World)
    (hE : w.ownsRow B 30 3 (.slice (some ⟨g, 0, none⟩) (k + 1) cap) (k + 1) xs)
    (hL : w.ownsRow B2 9 1 (.slice (some ⟨gl, 0, none⟩) (j + 1) cl) (j + 1) ((L ++ [x]).map strV))
    (hk : k ≤ 4294967280) (hj : j ≤ 4294967280) (hne : ∀ l ∈ L ++ [x], l ≠ []) (hflat : (L ++ [x]).flatten.length ≤ 4294967280)
    (hx : Pm.blank x = false) :
    Calls Tryz.prog 23 #[.slice (some ⟨g, 0, none⟩) (k + 1) cap, .slice (some ⟨gl, 0, none⟩) (j + 1) cl] w (FinPost g k ((L ++ [x]).flatMap Pm.unmark) w) := by
  have hsz : L.length = j := by have := hL.1; simpa using this
  have hgE : g < w.heap.size := (hE.lt g (by simp [Value.ownBlock])).2
  have hgL : gl < w.heap.size := (hL.lt gl (by simp [Value.ownBlock])).2
  have hE2 := Lib.hid (hE.cellAt (k * 3 + 2) (by omega))
  have hE3 := Lib.hid (hE.frozenAt (k * 3 + 2))
  have hxs : Hid (∃ v, xs[k * 3 + 2]? = some v) := ⟨_, List.getElem?_eq_getElem (by have := hE.1; omega)⟩
  have hcell : Hid (∀ (i : Nat) (h : i < (L ++ [x]).length), w.cell? ⟨gl, i, none⟩ = some (.string ⟨((L ++ [x])[i]).toArray⟩)) := fun i h => by
    have h' : i < j + 1 := by simpa [hsz] using h
    rw [hL.cellAt i (by omega), List.getElem?_map, List.getElem?_eq_getElem h]
    rfl
  have c1 : w.cell? ⟨gl, j, none⟩ = some (.string ⟨x.toArray⟩) := by
    rw [hL.cellAt j (by omega)]; simp [← hsz]
  have hne' := Lib.hid hne
  have hflat' := Lib.hid hflat
  have hblk : Hid (Calls Tryz.prog 24 #[.string ⟨x.toArray⟩] w fun e w' => e = .returned (.bool false) ∧ w = w') :=
    (blank_any ⟨x.toArray⟩ (by rw [Lib.size_eq]; simpa using Nat.le_trans (flatten_mem _ x (by simp)) hflat) w).mono fun e w' ⟨a, b⟩ => ⟨by rw [a]; simp [hx], b⟩
  have HSZ : Hid ((L ++ [x]).length = j + 1) := by show _ = _; simp [hsz]
  clear hE hL hne hflat hsz hx
  go_enter Tryz.func23, Tryz.ntmps23
  go_wp2_with (go_at_call 24; refine (hblk.out).mono ?_; rintro e w' ⟨rfl, rfl⟩)
  go_loopw [29] (fun i wr => ∃ q : Nat, q ≤ (j + 1) ∧ i = .int .i64 q ∧ Lib.IsBuilder 54 5 w.heap.size w.heap.size (Lib.byteCells (((L ++ [x]).take q).flatMap Pm.unmark)) wr ∧ Below w.heap.size w wr) (fun i _ => (j + 1) - (intOf i).toNat)
  case atStart => exact ⟨0, by omega, rfl, Lib.fresh_isBuilder 54 5 w, (Below.refl _ _).alloc (Nat.le_refl _) _⟩
  case round =>
    obtain ⟨q, hq, rfl, hbd, hb⟩ := hrel
    have HBD := Lib.hid hbd
    clear hbd
    by_cases hlt : q < (j + 1)
    · have hql : q < (L ++ [x]).length := by rw [HSZ.out]; exact hlt
      have hqc : wr.cell? ⟨gl, q, none⟩ = some (.string ⟨((L ++ [x])[q]).toArray⟩) := (hb.cell (p := ⟨gl, q, none⟩) hgL).trans (hcell.out q hql)
      have hsn := Lib.hid (flat_snoc (L ++ [x]) q hql)
      have hln := flatten_mem (L ++ [x]) _ (List.getElem_mem hql)
      have hfl := flat_le ((L ++ [x]).take q)
      have htk := take_flatten_le (L ++ [x]) q
      have hnx := hne'.out _ (List.getElem_mem hql)
      have hF := hflat'.out
      generalize (L ++ [x])[q] = ln at *
      have hw2 : Hid (∀ t : ByteArray, t.size ≤ ln.length → Calls Tryz.prog 34 #[.pointer (some ⟨w.heap.size, 0, none⟩), .string t] wr fun e w' =>
          e = .returned (.tuple #[.int .i64 t.size, .nilIface]) ∧ (Lib.BuilderAt 54 5 w.heap.size w.heap.size (.pointer (some ⟨w.heap.size, 0, none⟩)) (Lib.byteCells (((L ++ [x]).take q).flatMap Pm.unmark) ++ Lib.strCells t) w' ∧ Below w.heap.size wr w')) :=
        fun t ht => Tryz.Builder_WriteString w.heap.size w.heap.size _ t wr HBD.out (by rw [Lib.byteCells_length]; omega) hb.size
      obtain ⟨c, r, rfl⟩ : ∃ c r, ln = c :: r := by
        cases ln with
        | nil => exact absurd rfl hnx
        | cons c r => exact ⟨c, r, rfl⟩
      have hrl : r.length + 1 ≤ 4294967280 := by have := hln; simp only [List.length_cons] at this; omega
      have hmk := Lib.hid (marked_any ⟨(c :: r).toArray⟩ wr)
      have hz : ({ data := (c :: r).toArray } : ByteArray)[0]'(by rw [Lib.size_eq]; simp) = c := rfl
      clear hln hfl htk hnx hF hql
      by_cases h62 : c = 62
      · cases hmm : Pm.marked (c :: r)
        · have HM := Lib.hid hmm
          have HUN := Lib.hid (unmark_plain c r (by rw [hmm]; simp))
          have t1 : ((c.toNat : Int) == 62) = true := by rw [h62]; rfl
          have t2 : (c.toNat == 62) = true := by rw [h62]; rfl
          clear hmm h62
          go_wp2_with (first
            | (go_at_call 36; refine (hmk.out).mono ?_; rintro e w' ⟨rfl, rfl⟩; rw [List.toList_toArray, HM.out])
            | (go_at_call 34; refine (hw2.out _ (by rw [Lib.size_eq]; simp)).mono ?_; rintro e w3 ⟨rfl, hbd3, hb3⟩))
          go_roundw
          case rel => exact ⟨q + 1, by omega, by go_num, .inr (by rw [hsn.out, HUN.out, Lib.byteCells_append]; exact hbd3), hb.trans hb3⟩
          case measure => simp [intOf]; omega
        · have HM := Lib.hid hmm
          have HUN := Lib.hid (unmark_hit c r h62 hmm)
          have t1 : ((c.toNat : Int) == 62) = true := by rw [h62]; rfl
          have t2 : (c.toNat == 62) = true := by rw [h62]; rfl
          clear hmm h62
          go_wp2_with (first
            | (go_at_call 36; refine (hmk.out).mono ?_; rintro e w' ⟨rfl, rfl⟩; rw [List.toList_toArray, HM.out])
            | (go_at_call 34; rw [str_drop _ _ _ (by simp)]; refine (hw2.out _ (by rw [Lib.size_eq]; simp)).mono ?_; rintro e w3 ⟨rfl, hbd3, hb3⟩))
          go_roundw
          case rel => exact ⟨q + 1, by omega, by go_num, .inr (by rw [hsn.out, HUN.out, Lib.byteCells_append]; exact hbd3), hb.trans hb3⟩
          case measure => simp [intOf]; omega
      · have HUN := Lib.hid (unmark_plain c r (fun h => h62 h.1))
        have t1 : ((c.toNat : Int) == 62) = false := by
          rw [beq_eq_false_iff_ne]; intro e; exact h62 (UInt8.toNat_inj.1 (by show c.toNat = 62; omega))
        have t2 : (c.toNat == 62) = false := by
          rw [beq_eq_false_iff_ne]; intro e; exact h62 (UInt8.toNat_inj.1 (by show c.toNat = 62; omega))
        clear h62
        go_wp2_with (first
          | (go_at_call 36; refine (hmk.out).mono ?_; rintro e w' ⟨rfl, rfl⟩)
          | (go_at_call 34; refine (hw2.out _ (by rw [Lib.size_eq]; simp)).mono ?_; rintro e w3 ⟨rfl, hbd3, hb3⟩))
        go_roundw
        case rel => exact ⟨q + 1, by omega, by go_num, .inr (by rw [hsn.out, HUN.out, Lib.byteCells_append]; exact hbd3), hb.trans hb3⟩
        case measure => simp [intOf]; omega
    · have hqM : q = (j + 1) := by omega
      have hst : Hid (Calls Tryz.prog 37 #[.pointer (some ⟨w.heap.size, 0, none⟩)] wr fun e w' =>
          e = .returned (.string ⟨((L ++ [x]).flatMap Pm.unmark).toArray⟩) ∧ Below w.heap.size wr w') := by
        have h := Tryz.Builder_String_any w.heap.size w.heap.size _ wr HBD.out hb.size
        rw [hqM, List.take_of_length_le (by rw [HSZ.out]; exact Nat.le_refl _)] at h
        exact h
      clear hqM
      obtain ⟨v0, hv0⟩ := hxs.out
      have hE2' := hE2.out.trans hv0
      have HE2 := Lib.hid hE2'
      clear hE2' hv0
      go_wp2_with (go_at_call 37; refine (hst.out).mono ?_; rintro e w3 ⟨rfl, hb3⟩; have hs1 : w3.cell? ⟨g, k * 3 + 2, none⟩ = some v0 := ((hb.trans hb3).cell (p := ⟨g, k * 3 + 2, none⟩) hgE).trans HE2.out; have hs2 : w3.frozen? ⟨g, k * 3 + 2, none⟩ = false := ((hb.trans hb3).frozen (p := ⟨g, k * 3 + 2, none⟩) hgE).trans hE3.out)
      go_end0
      exact ⟨rfl, w3, hb.trans hb3, by simp⟩

set_option maxHeartbeats 1600000 in
theorem finish_b (g k cap gl j cl B B2 : Nat) (xs : List Value) (L : List Pm.Bs) (x : Pm.Bs) (w : World)
    (hE : w.ownsRow B 30 3 (.slice (some ⟨g, 0, none⟩) (k + 1) cap) (k + 1) xs)
    (hL : w.ownsRow B2 9 1 (.slice (some ⟨gl, 0, none⟩) (j + 1) cl) (j + 1) ((L ++ [x]).map strV))
    (hk : k ≤ 4294967280) (hj : j ≤ 4294967280) (hne : ∀ l ∈ L ++ [x], l ≠ []) (hflat : (L ++ [x]).flatten.length ≤ 4294967280)
    (hx : Pm.blank x = true) :
    Calls Tryz.prog 23 #[.slice (some ⟨g, 0, none⟩) (k + 1) cap, .slice (some ⟨gl, 0, none⟩) (j + 1) cl] w (FinPost g k (L.flatMap Pm.unmark) w) := by
  have hsz : L.length = j := by have := hL.1; simpa using this
  have hjc : j ≤ cl := by
    rcases hL.2 with ⟨h, _⟩ | ⟨g', cap', cur, h, _, _, hc, _⟩
    · cases h
    · injection h with _ _ h; omega
  have hgE : g < w.heap.size := (hE.lt g (by simp [Value.ownBlock])).2
  have hgL : gl < w.heap.size := (hL.lt gl (by simp [Value.ownBlock])).2
  have hE2 := Lib.hid (hE.cellAt (k * 3 + 2) (by omega))
  have hE3 := Lib.hid (hE.frozenAt (k * 3 + 2))
  have hxs : Hid (∃ v, xs[k * 3 + 2]? = some v) := ⟨_, List.getElem?_eq_getElem (by have := hE.1; omega)⟩
  have hcell : Hid (∀ (i : Nat) (h : i < L.length), w.cell? ⟨gl, i, none⟩ = some (.string ⟨(L[i]).toArray⟩)) := fun i h => by
    rw [hL.cellAt i (by omega), List.getElem?_map, List.getElem?_append_left h, List.getElem?_eq_getElem h]
    rfl
  have c1 : w.cell? ⟨gl, j, none⟩ = some (.string ⟨x.toArray⟩) := by
    rw [hL.cellAt j (by omega)]; simp [← hsz]
  have hne' : Hid (∀ l ∈ L, l ≠ []) := fun l hl => hne l (by simp [hl])
  have hflat' : Hid (L.flatten.length ≤ 4294967280) := by
    show _ ≤ _
    rw [List.flatten_append, List.length_append] at hflat; omega
  have hblk : Hid (Calls Tryz.prog 24 #[.string ⟨x.toArray⟩] w fun e w' => e = .returned (.bool true) ∧ w = w') :=
    (blank_any ⟨x.toArray⟩ (by rw [Lib.size_eq]; simpa using Nat.le_trans (flatten_mem _ x (by simp)) hflat) w).mono fun e w' ⟨a, b⟩ => ⟨by rw [a]; simp [hx], b⟩
  have HSZ := Lib.hid hsz
  clear hE hL hne hflat hsz hx
  go_enter Tryz.func23, Tryz.ntmps23
  go_wp2_with (go_at_call 24; refine (hblk.out).mono ?_; rintro e w' ⟨rfl, rfl⟩)
  go_loopw [29] (fun i wr => ∃ q : Nat, q ≤ j ∧ i = .int .i64 q ∧ Lib.IsBuilder 54 5 w.heap.size w.heap.size (Lib.byteCells ((L.take q).flatMap Pm.unmark)) wr ∧ Below w.heap.size w wr) (fun i _ => j - (intOf i).toNat)
  case atStart => exact ⟨0, by omega, rfl, Lib.fresh_isBuilder 54 5 w, (Below.refl _ _).alloc (Nat.le_refl _) _⟩
  case round =>
    obtain ⟨q, hq, rfl, hbd, hb⟩ := hrel
    have HBD := Lib.hid hbd
    clear hbd
    by_cases hlt : q < j
    · have hql : q < L.length := by rw [HSZ.out]; exact hlt
      have hqc : wr.cell? ⟨gl, q, none⟩ = some (.string ⟨(L[q]).toArray⟩) := (hb.cell (p := ⟨gl, q, none⟩) hgL).trans (hcell.out q hql)
      have hsn := Lib.hid (flat_snoc L q hql)
      have hln := flatten_mem L _ (List.getElem_mem hql)
      have hfl := flat_le (L.take q)
      have htk := take_flatten_le L q
      have hnx := hne'.out _ (List.getElem_mem hql)
      have hF := hflat'.out
      generalize L[q] = ln at *
      have hw2 : Hid (∀ t : ByteArray, t.size ≤ ln.length → Calls Tryz.prog 34 #[.pointer (some ⟨w.heap.size, 0, none⟩), .string t] wr fun e w' =>
          e = .returned (.tuple #[.int .i64 t.size, .nilIface]) ∧ (Lib.BuilderAt 54 5 w.heap.size w.heap.size (.pointer (some ⟨w.heap.size, 0, none⟩)) (Lib.byteCells ((L.take q).flatMap Pm.unmark) ++ Lib.strCells t) w' ∧ Below w.heap.size wr w')) :=
        fun t ht => Tryz.Builder_WriteString w.heap.size w.heap.size _ t wr HBD.out (by rw [Lib.byteCells_length]; omega) hb.size
      obtain ⟨c, r, rfl⟩ : ∃ c r, ln = c :: r := by
        cases ln with
        | nil => exact absurd rfl hnx
        | cons c r => exact ⟨c, r, rfl⟩
      have hrl : r.length + 1 ≤ 4294967280 := by have := hln; simp only [List.length_cons] at this; omega
      have hmk := Lib.hid (marked_any ⟨(c :: r).toArray⟩ wr)
      have hz : ({ data := (c :: r).toArray } : ByteArray)[0]'(by rw [Lib.size_eq]; simp) = c := rfl
      clear hln hfl htk hnx hF hql
      by_cases h62 : c = 62
      · cases hmm : Pm.marked (c :: r)
        · have HM := Lib.hid hmm
          have HUN := Lib.hid (unmark_plain c r (by rw [hmm]; simp))
          have t1 : ((c.toNat : Int) == 62) = true := by rw [h62]; rfl
          have t2 : (c.toNat == 62) = true := by rw [h62]; rfl
          clear hmm h62
          go_wp2_with (first
            | (go_at_call 36; refine (hmk.out).mono ?_; rintro e w' ⟨rfl, rfl⟩; rw [List.toList_toArray, HM.out])
            | (go_at_call 34; refine (hw2.out _ (by rw [Lib.size_eq]; simp)).mono ?_; rintro e w3 ⟨rfl, hbd3, hb3⟩))
          go_roundw
          case rel => exact ⟨q + 1, by omega, by go_num, .inr (by rw [hsn.out, HUN.out, Lib.byteCells_append]; exact hbd3), hb.trans hb3⟩
          case measure => simp [intOf]; omega
        · have HM := Lib.hid hmm
          have HUN := Lib.hid (unmark_hit c r h62 hmm)
          have t1 : ((c.toNat : Int) == 62) = true := by rw [h62]; rfl
          have t2 : (c.toNat == 62) = true := by rw [h62]; rfl
          clear hmm h62
          go_wp2_with (first
            | (go_at_call 36; refine (hmk.out).mono ?_; rintro e w' ⟨rfl, rfl⟩; rw [List.toList_toArray, HM.out])
            | (go_at_call 34; rw [str_drop _ _ _ (by simp)]; refine (hw2.out _ (by rw [Lib.size_eq]; simp)).mono ?_; rintro e w3 ⟨rfl, hbd3, hb3⟩))
          go_roundw
          case rel => exact ⟨q + 1, by omega, by go_num, .inr (by rw [hsn.out, HUN.out, Lib.byteCells_append]; exact hbd3), hb.trans hb3⟩
          case measure => simp [intOf]; omega
      · have HUN := Lib.hid (unmark_plain c r (fun h => h62 h.1))
        have t1 : ((c.toNat : Int) == 62) = false := by
          rw [beq_eq_false_iff_ne]; intro e; exact h62 (UInt8.toNat_inj.1 (by show c.toNat = 62; omega))
        have t2 : (c.toNat == 62) = false := by
          rw [beq_eq_false_iff_ne]; intro e; exact h62 (UInt8.toNat_inj.1 (by show c.toNat = 62; omega))
        clear h62
        go_wp2_with (first
          | (go_at_call 36; refine (hmk.out).mono ?_; rintro e w' ⟨rfl, rfl⟩)
          | (go_at_call 34; refine (hw2.out _ (by rw [Lib.size_eq]; simp)).mono ?_; rintro e w3 ⟨rfl, hbd3, hb3⟩))
        go_roundw
        case rel => exact ⟨q + 1, by omega, by go_num, .inr (by rw [hsn.out, HUN.out, Lib.byteCells_append]; exact hbd3), hb.trans hb3⟩
        case measure => simp [intOf]; omega
    · have hqM : q = j := by omega
      have hst : Hid (Calls Tryz.prog 37 #[.pointer (some ⟨w.heap.size, 0, none⟩)] wr fun e w' =>
          e = .returned (.string ⟨(L.flatMap Pm.unmark).toArray⟩) ∧ Below w.heap.size wr w') := by
        have h := Tryz.Builder_String_any w.heap.size w.heap.size _ wr HBD.out hb.size
        rw [hqM, List.take_of_length_le (by rw [HSZ.out]; exact Nat.le_refl _)] at h
        exact h
      clear hqM
      obtain ⟨v0, hv0⟩ := hxs.out
      have hE2' := hE2.out.trans hv0
      have HE2 := Lib.hid hE2'
      clear hE2' hv0
      go_wp2_with (go_at_call 37; refine (hst.out).mono ?_; rintro e w3 ⟨rfl, hb3⟩; have hs1 : w3.cell? ⟨g, k * 3 + 2, none⟩ = some v0 := ((hb.trans hb3).cell (p := ⟨g, k * 3 + 2, none⟩) hgE).trans HE2.out; have hs2 : w3.frozen? ⟨g, k * 3 + 2, none⟩ = false := ((hb.trans hb3).frozen (p := ⟨g, k * 3 + 2, none⟩) hgE).trans hE3.out)
      go_end0
      exact ⟨rfl, w3, hb.trans hb3, rfl⟩

set_option maxHeartbeats 800000 in
theorem finish_a (g k cap B : Nat) (A : Option Addr) (cl : Nat) (xs : List Value) (w : World)
    (hE : w.ownsRow B 30 3 (.slice (some ⟨g, 0, none⟩) (k + 1) cap) (k + 1) xs) (hk : k ≤ 4294967280) :
    Calls Tryz.prog 23 #[.slice (some ⟨g, 0, none⟩) (k + 1) cap, .slice A 0 cl] w (FinPost g k [] w) := by
  have hgE : g < w.heap.size := (hE.lt g (by simp [Value.ownBlock])).2
  have hE2 := Lib.hid (hE.cellAt (k * 3 + 2) (by omega))
  have hE3 := Lib.hid (hE.frozenAt (k * 3 + 2))
  have hxs : Hid (∃ v, xs[k * 3 + 2]? = some v) := ⟨_, List.getElem?_eq_getElem (by have := hE.1; omega)⟩
  clear hE
  go_enter Tryz.func23, Tryz.ntmps23
  go_wp2
  go_loopw [29] (fun i wr => i = .int .i64 0 ∧ Lib.IsBuilder 54 5 w.heap.size w.heap.size (Lib.byteCells []) wr ∧ Below w.heap.size w wr) (fun _ _ => 0)
  case atStart => exact ⟨rfl, Lib.fresh_isBuilder 54 5 w, (Below.refl _ _).alloc (Nat.le_refl _) _⟩
  case round =>
    obtain ⟨rfl, hbd, hb⟩ := hrel
    have hst : Hid (Calls Tryz.prog 37 #[.pointer (some ⟨w.heap.size, 0, none⟩)] wr fun e w' =>
        e = .returned (.string ⟨([] : Pm.Bs).toArray⟩) ∧ Below w.heap.size wr w') := Tryz.Builder_String_any w.heap.size w.heap.size [] wr hbd hb.size
    clear hbd
    obtain ⟨v0, hv0⟩ := hxs.out
    have hE2' := hE2.out.trans hv0
    have HE2 := Lib.hid hE2'
    clear hE2' hv0
    go_wp2_with (go_at_call 37; refine (hst.out).mono ?_; rintro e w3 ⟨rfl, hb3⟩; have hs1 : w3.cell? ⟨g, k * 3 + 2, none⟩ = some v0 := ((hb.trans hb3).cell (p := ⟨g, k * 3 + 2, none⟩) hgE).trans HE2.out; have hs2 : w3.frozen? ⟨g, k * 3 + 2, none⟩ = false := ((hb.trans hb3).frozen (p := ⟨g, k * 3 + 2, none⟩) hgE).trans hE3.out)
    go_end0
    exact ⟨rfl, w3, hb.trans hb3, rfl⟩

theorem rawOf_nil : Pm.rawOf [] = [] := rfl
theorem rawOf_snoc (L : List Pm.Bs) (x : Pm.Bs) : Pm.rawOf (L ++ [x]) = if Pm.blank x then L.flatMap Pm.unmark else (L ++ [x]).flatMap Pm.unmark := by
  unfold Pm.rawOf Pm.dropBlank
  rw [List.getLast?_concat]
  dsimp only
  split <;> simp

/-- finish, where there is an entry. -/
theorem finish_any (g k cap B B2 : Nat) (xs : List Value) (v : Value) (ls : List Pm.Bs) (w : World)
    (hE : w.ownsRow B 30 3 (.slice (some ⟨g, 0, none⟩) (k + 1) cap) (k + 1) xs)
    (hL : w.ownsRow B2 9 1 v ls.length (ls.map strV))
    (hk : k ≤ 4294967280) (hj : ls.length ≤ 4294967280) (hne : ∀ l ∈ ls, l ≠ []) (hflat : ls.flatten.length ≤ 4294967280) :
    Calls Tryz.prog 23 #[.slice (some ⟨g, 0, none⟩) (k + 1) cap, v] w (FinPost g k (Pm.rawOf ls) w) := by
  rcases List.eq_nil_or_concat ls with rfl | ⟨L, x, rfl⟩
  · rcases hL.2 with ⟨rfl, _⟩ | ⟨g', cap', cur, rfl, _⟩
    · exact finish_a g k cap B none 0 xs w hE hk
    · exact finish_a g k cap B (some ⟨g', 0, none⟩) cap' xs w hE hk
  · rcases hL.2 with ⟨_, h0⟩ | ⟨g', cap', cur, rfl, _⟩
    · simp at h0
    · have hlen : (L.concat x).length = L.length + 1 := by simp
      rw [List.concat_eq_append] at *
      rw [hlen] at hL ⊢
      rw [rawOf_snoc]
      cases hx : Pm.blank x
      · exact finish_c g k cap g' L.length cap' B B2 xs L x w hE hL hk (by simp at hj; omega) hne hflat hx
      · exact finish_b g k cap g' L.length cap' B B2 xs L x w hE hL hk (by simp at hj; omega) hne hflat hx

end Go.Proofs.YtbhhaehdoiaihaaGreatDoor
