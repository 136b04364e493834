/- What the slices of mbox.Read hold between two lines: words and laws. -/
import Derived.Test.YtbhhaehdoiaihaaGreatDoorWi
import Derived.Maps.AppendAt
namespace Go.Proofs.YtbhhaehdoiaihaaGreatDoor
open Go.RowKit

def entCells (es : List Pm.Ent) : List Value := es.flatMap fun e => [.string ⟨e.sender.toArray⟩, .int .i64 e.date, .string ⟨e.raw.toArray⟩]
def damCells (ds : List Pm.Dam) : List Value := ds.flatMap fun d => [.int .i64 d.kind, .int .i64 d.at_]

theorem entCells_snoc (es : List Pm.Ent) (e : Pm.Ent) : entCells (es ++ [e]) = entCells es ++ [.string ⟨e.sender.toArray⟩, .int .i64 e.date, .string ⟨e.raw.toArray⟩] := by simp [entCells]
theorem damCells_snoc (ds : List Pm.Dam) (d : Pm.Dam) : damCells (ds ++ [d]) = damCells ds ++ [.int .i64 d.kind, .int .i64 d.at_] := by simp [damCells]
theorem entCells_length (es : List Pm.Ent) : (entCells es).length = es.length * 3 := by
  induction es with
  | nil => rfl
  | cons e es ih => simp only [entCells, List.flatMap_cons, List.length_append, List.length_cons, List.length_nil] at ih ⊢; omega
theorem damCells_length (es : List Pm.Dam) : (damCells es).length = es.length * 2 := by
  induction es with
  | nil => rfl
  | cons e es ih => simp only [damCells, List.flatMap_cons, List.length_append, List.length_cons, List.length_nil] at ih ⊢; omega
theorem setRaw_length (es : List Pm.Ent) (r : Pm.Bs) : (Pm.setRaw es r).length = es.length := by
  induction es with
  | nil => rfl
  | cons e es ih =>
    cases es with
    | nil => rfl
    | cons f fs => simp only [Pm.setRaw, List.length_cons] at ih ⊢; omega
theorem setRaw_snoc (es : List Pm.Ent) (e : Pm.Ent) (r : Pm.Bs) : Pm.setRaw (es ++ [e]) r = es ++ [{ e with raw := r }] := by
  induction es with
  | nil => rfl
  | cons a es ih =>
    cases es with
    | nil => rfl
    | cons f fs => simp only [List.cons_append, Pm.setRaw] at ih ⊢; rw [ih]
theorem entCells_setRaw (es : List Pm.Ent) (k : Nat) (r : Pm.Bs) (h : es.length = k + 1) : (entCells es).set (k * 3 + 2) (.string ⟨r.toArray⟩) = entCells (Pm.setRaw es r) := by
  rcases List.eq_nil_or_concat es with rfl | ⟨L, x, rfl⟩
  · simp at h
  · rw [List.concat_eq_append] at *
    have hL : L.length = k := by simpa using h
    rw [setRaw_snoc, entCells_snoc, entCells_snoc, List.set_append_right _ _ (by rw [entCells_length]; omega)]
    rw [entCells_length, hL, show k * 3 + 2 - k * 3 = 2 by omega]
    rfl

theorem own_ne {w : World} {base base' : Nat} {e e' : TypeId} {size size' n n' : Nat} {v v' : Value} {xs xs' : List Value} (h : w.ownsRow base e size v n xs) (h' : w.ownsRow base' e' size' v' n' xs') (hne : e ≠ e') :
    v.ownBlock = none ∨ v.ownBlock ≠ v'.ownBlock := by
  rcases h.2 with ⟨rfl, _⟩ | ⟨g, cap, cur, rfl, _, hg, _⟩
  · exact .inl rfl
  · refine .inr fun he => ?_
    rcases h'.2 with ⟨rfl, _⟩ | ⟨g', cap', cur', rfl, _, hg', _⟩
    · simp [Value.ownBlock] at he
    · have : g = g' := by simpa [Value.ownBlock] using he
      subst this
      rw [hg] at hg'
      injection hg' with hg'
      injection hg' with _ ht
      exact hne ht

theorem cells_new (w : World) (cs : List Value) (t : TypeId) : ∀ j u, cs[j]? = some u → (w.alloc (.cells cs.toArray t)).cell? ((⟨w.heap.size, 0, none⟩ : Addr).add j) = some u := by
  intro j u hj
  have h : (w.alloc (.cells cs.toArray t)).heap[w.heap.size]? = some (.cells cs.toArray t (0, 0)) := heap_alloc_new w _
  have e : ((⟨w.heap.size, 0, none⟩ : Addr).add j) = ⟨w.heap.size, j, none⟩ := by
    unfold Addr.add; split
    · next h0 => subst h0; rfl
    · simp
  rw [e, cell_of_row _ _ j _ _ _ h]
  simpa using hj

/-- The three slices of mbox.Read, all in blocks of the call's own. -/
structure RS (w : World) (es : List Pm.Ent) (ds : List Pm.Dam) (ls : List Pm.Bs) (ve vd vl : Value) (wr : World) : Prop where
  ents : wr.ownsRow w.heap.size 30 3 ve es.length (entCells es)
  dams : wr.ownsRow w.heap.size 38 2 vd ds.length (damCells ds)
  lns : wr.ownsRow w.heap.size 9 1 vl ls.length (ls.map strV)
  below : Below w.heap.size w wr

section
variable {w wr w1 : World} {es : List Pm.Ent} {ds : List Pm.Dam} {ls : List Pm.Bs} {ve vd vl v' : Value}

theorem own_below {base : Nat} {e : TypeId} {size n : Nat} {v : Value} {xs : List Value} (h : wr.ownsRow base e size v n xs) (hb : Below wr.heap.size wr w1) : w1.ownsRow base e size v n xs := by
  refine h.kept (row := none) ⟨hb.os, hb.tape, hb.output, hb.size, fun k hk _ => hb.block k hk⟩ ?_
  rcases h.2 with ⟨rfl, _⟩ | ⟨g, cap, cur, rfl, _⟩
  · exact .inl rfl
  · exact .inr (by simp [Value.ownBlock])
theorem RS.step (h : RS w es ds ls ve vd vl wr) (hb : Below wr.heap.size wr w1) : RS w es ds ls ve vd vl w1 :=
  ⟨own_below h.ents hb, own_below h.dams hb, own_below h.lns hb, h.below.trans (hb.mono h.below.size)⟩
theorem RS.alloc (h : RS w es ds ls ve vd vl wr) (o : Obj) : RS w es ds ls ve vd vl (wr.alloc o) := h.step ((Below.refl _ _).alloc (Nat.le_refl _) _)
theorem RS.noLines (h : RS w es ds ls ve vd vl wr) : RS w es ds [] ve vd (.slice none 0 0) wr := ⟨h.ents, h.dams, World.ownsRow_nil _ _ _ _, h.below⟩
theorem RS.row_ge {base : Nat} {e : TypeId} {size n : Nat} {v : Value} {xs : List Value} (h : wr.ownsRow base e size v n xs) : ∀ k, v.ownBlock = some k → base ≤ k := fun k hk => (h.lt k hk).1
theorem RS.addEnt (h : RS w es ds ls ve vd vl wr) (e : Pm.Ent) (hown : w1.ownsRow w.heap.size 30 3 v' (es.length + 1) (entCells es ++ [.string ⟨e.sender.toArray⟩, .int .i64 e.date, .string ⟨e.raw.toArray⟩]))
    (hg : wr.grownBy w1 ve.ownBlock) : RS w (es ++ [e]) ds ls v' vd vl w1 :=
  ⟨by rw [entCells_snoc, List.length_append]; exact hown, h.dams.kept hg (own_ne h.dams h.ents (by decide)), h.lns.kept hg (own_ne h.lns h.ents (by decide)),
    h.below.grown hg h.below.size (RS.row_ge h.ents)⟩
theorem RS.addDam (h : RS w es ds ls ve vd vl wr) (d : Pm.Dam) (hown : w1.ownsRow w.heap.size 38 2 v' (ds.length + 1) (damCells ds ++ [.int .i64 d.kind, .int .i64 d.at_]))
    (hg : wr.grownBy w1 vd.ownBlock) : RS w es (ds ++ [d]) ls ve v' vl w1 :=
  ⟨h.ents.kept hg (own_ne h.ents h.dams (by decide)), by rw [damCells_snoc, List.length_append]; exact hown, h.lns.kept hg (own_ne h.lns h.dams (by decide)),
    h.below.grown hg h.below.size (RS.row_ge h.dams)⟩
theorem RS.addLine (h : RS w es ds ls ve vd vl wr) (l : Pm.Bs) (hown : w1.ownsRow w.heap.size 9 1 v' (ls.length + 1) (ls.map strV ++ [strV l]))
    (hg : wr.grownBy w1 vl.ownBlock) : RS w es ds (ls ++ [l]) ve vd v' w1 :=
  ⟨h.ents.kept hg (own_ne h.ents h.lns (by decide)), h.dams.kept hg (own_ne h.dams h.lns (by decide)), by rw [List.map_append, List.length_append]; exact hown,
    h.below.grown hg h.below.size (RS.row_ge h.lns)⟩
theorem RS.setLast {g k cap : Nat} (h : RS w es ds ls (.slice (some ⟨g, 0, none⟩) (k + 1) cap) vd vl wr) (hk : es.length = k + 1) (r : Pm.Bs) :
    RS w (Pm.setRaw es r) ds ls (.slice (some ⟨g, 0, none⟩) (k + 1) cap) vd vl (wr.setCell ⟨g, k * 3 + 2, none⟩ (.string ⟨r.toArray⟩)) := by
  have hE := h.ents
  rw [hk] at hE
  obtain ⟨h1, h2⟩ := hE.stored (k * 3 + 2) (.string ⟨r.toArray⟩)
  refine ⟨?_, h.dams.kept h2 (own_ne h.dams h.ents (by decide)), h.lns.kept h2 (own_ne h.lns h.ents (by decide)), h.below.grown h2 h.below.size (fun j hj => ?_)⟩
  · rw [setRaw_length, hk, ← entCells_setRaw es k r hk]; exact h1
  · exact RS.row_ge h.ents j hj
end

theorem info_ent : (Tryz.prog.info? 30).map (fun i => (i.zero, i.size, i.bytes)) = some (some (.agg #[.string .empty, .int .i64 0, .string .empty]), 3, 40) := by kernel_rfl
theorem info_dam : (Tryz.prog.info? 38).map (fun i => (i.zero, i.size, i.bytes)) = some (some (.agg #[.int .i64 0, .int .i64 0]), 2, 16) := by kernel_rfl

end Go.Proofs.YtbhhaehdoiaihaaGreatDoor
