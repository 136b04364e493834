/- append of a list of entries to a row of the call's own. -/
import Derived.Test.YtbhhaehdoiaihaaGreatDoorZd
import Derived.Laws.AppendOwnNone
namespace Go.Proofs.YtbhhaehdoiaihaaGreatDoor
open Go.RowKit

theorem wpList_wanted {P : Program} {ops : Array Oper} {rest : List Oper} {o : Oper} {a : Act} {w : World} {Q : Exit → Act → World → Prop} (hg : Region.wanted o (yielded ops a.tmps) = true)
    (h : ∀ K : Act → World → Prop, (∀ a w, wpList P ops Q rest a w → K a w) → o.wp P a w K Q) : wpList P ops Q (o :: rest) a w :=
  wpList_step fun K hK => by rw [if_pos hg]; exact h K hK
theorem entCells_app (es fs : List Pm.Ent) : entCells (es ++ fs) = entCells es ++ entCells fs := by simp [entCells]
theorem entCells_one (fs : List Pm.Ent) : ∀ u ∈ entCells fs, u.oneCell' = true := by
  intro u hu
  obtain ⟨e, _, hu⟩ := List.mem_flatMap.1 hu
  simp at hu
  rcases hu with rfl | rfl | rfl <;> rfl
theorem addr_add (b o j : Nat) : (⟨b, o, none⟩ : Addr).add j = ⟨b, o + j, none⟩ := by
  unfold Addr.add
  split
  · next h => subst h; simp
  · simp
theorem entAt_cells {w : World} {b o : Nat} {fs : List Pm.Ent} (h : EntAt w b o fs) : ∀ j u, (entCells fs)[j]? = some u → w.cell? ((⟨b, o, none⟩ : Addr).add j) = some u := by
  intro j u hj
  rw [addr_add]
  have hlt : j < fs.length * 3 := by
    rw [← entCells_length]; exact (List.getElem?_eq_some_iff.1 hj).1
  have hk : j / 3 < fs.length := by omega
  have hc : j % 3 = 0 ∨ j % 3 = 1 ∨ j % 3 = 2 := by omega
  rcases hc with e | e | e
  · have ej : j = (j / 3) * 3 := by omega
    have := entCells_from fs (j / 3) hk
    rw [← ej, hj] at this
    rw [this, ← h.sender _ hk, ← ej]
  · have ej : j = (j / 3) * 3 + 1 := by omega
    have := entCells_date fs (j / 3) hk
    rw [← ej, hj] at this
    rw [this, ← h.date _ hk, show o + (j / 3) * 3 + 1 = o + j by omega]
  · have ej : j = (j / 3) * 3 + 2 := by omega
    have := entCells_raw fs (j / 3) hk
    rw [← ej, hj] at this
    rw [this, ← h.raw _ hk, show o + (j / 3) * 3 + 2 = o + j by omega]

theorem wpList_append_ents {ops : Array Oper} {rest : List Oper} {o : Oper} {a : Act} {w : World} {Q : Exit → Act → World → Prop} (hg : Region.wanted o (yielded ops a.tmps) = true) (s x : Operand)
    (ho : o.op = .call { callee := .builtin .append, args := #[s, x], argTypes := #[22, 22] })
    (base : Nat) (v : Value) (n : Nat) (xs : List Value) (hs : a.eval s = v) (hown : w.ownsRow base 30 3 v n xs)
    (A : Option Addr) (c : Nat) (fs : List Pm.Ent) (hx : a.eval x = .slice A fs.length c) (hE : EntS w A fs) (hA : A = none → c = 0)
    (hn : n + fs.length ≤ 1000000000) (hbase : base ≤ w.heap.size)
    (h : ∀ v' w', w'.ownsRow base 30 3 v' (n + fs.length) (xs ++ entCells fs) → w.grownBy w' v.ownBlock → wpList Tryz.prog ops Q rest (a.put o.dst v') w') : wpList Tryz.prog ops Q (o :: rest) a w := by
  obtain ⟨iE, hE', hE0, hE1, hE2⟩ := info_parts info_ent
  refine wpList_wanted hg fun K hK => ?_
  cases A with
  | none =>
    have hl : fs.length = 0 := by
      rcases hE.2 with e | ⟨b, o, e, _⟩
      · exact e
      · cases e
    have hfs : fs = [] := List.eq_nil_of_length_eq_zero hl
    subst hfs
    rw [hA rfl] at hx
    have hrun := run_append_owned_none (P := Tryz.prog) (w := w) base 22 o.type 30 iE 3 Tryz.underlying22 hE' v n xs hown
    unfold Oper.wp
    have hx' : a.eval x = .slice none 0 0 := hx
    simp [execOp, ho, resolve, invoke, builtin, hs, hx', hrun, Result.andThen]
    exact hK _ _ (h v w (by simpa [entCells] using hown) ⟨rfl, rfl, rfl, Nat.le_refl _, fun _ _ _ => rfl⟩)
  | some ad =>
    refine wp_append_own (P := Tryz.prog) (w := w) s x 22 ho base 30 iE _ 3 40 Tryz.underlying22 hE' hE0 hE1 hE2 rfl (by decide) v n xs hs hown ad fs.length c (entCells fs) hx (entCells_length fs) ?_ (entCells_one fs)
      (by simp only [maxLen]; omega) (by omega) hbase (fun v' w' h2 h3 _ => hK _ _ (h v' w' h2 h3))
    rcases hE.2 with e | ⟨b, off, e, hat⟩
    · have hfs : fs = [] := List.eq_nil_of_length_eq_zero e
      subst hfs
      intro j u hj; simp [entCells] at hj
    · injection e with e
      subst e
      exact entAt_cells hat
theorem own_cap {w : World} {base : Nat} {e : TypeId} {size n c : Nat} {A : Option Addr} {xs : List Value} (h : w.ownsRow base e size (.slice A n c) n xs) : A = none → c = 0 := by
  rintro rfl
  rcases h.2 with ⟨h0, _⟩ | ⟨g, cap, cur, h1, _⟩
  · injection h0
  · injection h1 with h1; cases h1
theorem own_empty (w : World) : (w.alloc (.cells #[] 30)).ownsRow w.heap.size 30 3 (.slice (some ⟨w.heap.size, 0, none⟩) 0 0) 0 [] :=
  ⟨rfl, .inr ⟨w.heap.size, 0, #[], rfl, Nat.le_refl _, heap_alloc_new w _, Nat.le_refl _, by simp [maxLen], rfl, rfl⟩⟩
end Go.Proofs.YtbhhaehdoiaihaaGreatDoor
