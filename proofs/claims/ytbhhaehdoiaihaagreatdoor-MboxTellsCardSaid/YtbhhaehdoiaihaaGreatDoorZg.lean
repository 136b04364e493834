/- A list of entries that came in: its cells. -/
import Derived.Test.YtbhhaehdoiaihaaGreatDoorZf
import Derived.Deep.Strs
import Derived.Deep.Slices
namespace Go.Proofs.YtbhhaehdoiaihaaGreatDoor
open Go.RowKit Go.Deep Go.ChangeShapes

theorem cell_spot {w : World} {a : Addr} {v : Value} (h : w.cell? a = some v) : a.spot = none := by
  unfold World.cell? at h
  split at h
  · split at h
    · cases h
    · next hs => simpa using hs
  · cases h

set_option maxRecDepth 100000 in
theorem open_ents {H : Type} {enc : TypeId × Value → H} {W : World} {sp : Nat → Bool} {fuel : Nat} {cs : List Value} {x : DataW H × List MemPlace} (h : DataW.trod enc Tryz.prog W 0 sp true fuel 22 cs = some x) :
    ∃ (A : Option Addr) (cap : Nat) (es : List Pm.Ent), cs = [.slice A es.length cap] ∧ EntS W A es ∧ (A = none → cap = 0) ∧ es.length ≤ cap ∧
      ∀ y ∈ es, y.sender.length ≤ 9223372036854775807 ∧ y.raw.length ≤ 9223372036854775807 := by
  rcases open_slice Tryz.underlying22 h with ⟨rfl, _⟩ | ⟨a, len, cap, m, n, D, Pl, rfl, hb, hl, hm, hmm, rfl, hx⟩
  · exact ⟨none, 0, [], rfl, ⟨by simp, .inl rfl⟩, fun _ => rfl, Nat.le_refl _, by simp⟩
  have hlm : len ≤ m := by rw [hmm]; split <;> omega
  have ce : Tryz.prog.cellsOf 30 = 3 := by kernel_rfl
  have c9 : Tryz.prog.cellsOf 9 = 1 := by kernel_rfl
  have c3 : Tryz.prog.cellsOf 3 = 1 := by kernel_rfl
  have each : ∀ i, i < m → ∃ q : ByteArray × Int × ByteArray, W.cell? (a.add (i * 3)) = some (.string q.1) ∧ W.cell? (a.add (i * 3 + 1)) = some (.int .i64 q.2.1) ∧ W.cell? (a.add (i * 3 + 2)) = some (.string q.2.2) ∧
      q.1.size ≤ maxLen ∧ q.2.2.size ≤ maxLen := by
    intro i hi
    obtain ⟨cs', h1, h2⟩ := hx i hi
    rw [ce] at h1
    obtain ⟨_, hlen, hcell⟩ := World.cells?_some h1
    obtain ⟨y0, y1, y2, k, hxy, _, u0, u1, u2⟩ := trod_struct3 Tryz.underlying30 h2
    match cs', hlen with
    | [v0, v1, v2], _ =>
      simp only [c9, c3, List.drop, List.take] at u0 u1 u2
      obtain ⟨s, e0, _, z0⟩ := DataW.trod_string Tryz.underlying9 u0
      obtain ⟨q, e1, _, _⟩ := DataW.trod_int Tryz.underlying3 u1
      obtain ⟨p, e2, _, z2⟩ := DataW.trod_string Tryz.underlying9 u2
      simp only [List.cons.injEq, and_true] at e0 e1 e2
      subst e0; subst e1; subst e2
      have c0 := hcell 0 (by omega)
      have c1 := hcell 1 (by omega)
      have c2 := hcell 2 (by omega)
      rw [add_add] at c0 c1 c2
      exact ⟨(s, q, p), by simpa using c0, by simpa using c1, by simpa using c2, z0, z2⟩
  obtain ⟨q, hq⟩ := choose_lt each
  have hlen : ((List.range len).map fun i => (⟨(q i).1.data.toList, (q i).2.1, (q i).2.2.data.toList⟩ : Pm.Ent)).length = len := by simp
  refine ⟨some a, cap, (List.range len).map fun i => ⟨(q i).1.data.toList, (q i).2.1, (q i).2.2.data.toList⟩, by rw [hlen], ⟨by rw [hlen]; simp only [maxLen] at hm; omega, ?_⟩, (by intro e; cases e), by rw [hlen]; exact hl, ?_⟩
  · rcases Nat.eq_zero_or_pos len with e | e
    · exact .inl (by rw [hlen]; exact e)
    · right
      have hs : a.spot = none := by
        have := (hq 0 (by omega)).1
        exact cell_spot (a := a) this
      obtain ⟨b, o, spot⟩ := a
      dsimp only at hs
      subst hs
      refine ⟨b, o, rfl, fun k hk => ?_, fun k hk => ?_, fun k hk => ?_⟩
      · rw [hlen] at hk
        have := (hq k (by omega)).1
        rw [addr_add] at this
        simpa [Lib.mk_data, mk_data] using this
      · rw [hlen] at hk
        have := (hq k (by omega)).2.1
        rw [addr_add, ← Nat.add_assoc] at this
        simpa using this
      · rw [hlen] at hk
        have := (hq k (by omega)).2.2.1
        rw [addr_add, ← Nat.add_assoc] at this
        simpa [Lib.mk_data, mk_data] using this
  · intro y hy
    obtain ⟨i, hi, rfl⟩ := List.mem_map.1 hy
    have := hq i (by have := List.mem_range.1 hi; omega)
    refine ⟨?_, ?_⟩
    · show (q i).1.data.toList.length ≤ _
      rw [← Lib.size_eq]; simpa only [maxLen] using this.2.2.2.1
    · show (q i).2.2.data.toList.length ≤ _
      rw [← Lib.size_eq]; simpa only [maxLen] using this.2.2.2.2
end Go.Proofs.YtbhhaehdoiaihaaGreatDoor
