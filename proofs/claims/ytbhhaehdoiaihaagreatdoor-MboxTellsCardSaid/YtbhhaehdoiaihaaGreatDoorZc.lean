/- A builder that lasts while a box of the call's own is read beside it: laws for the walk of mbox.Write. -/
import Derived.Test.YtbhhaehdoiaihaaGreatDoorZb
import Derived.Shelf.Strings.BuilderK
namespace Go.Proofs.YtbhhaehdoiaihaaGreatDoor
open Go.RowKit

theorem Tryz.WriteString_k (B b : Nat) (bs : List Value) (s : ByteArray) (w : World) (h : Lib.IsBuilderF 54 5 B b bs w) (hlen : bs.length + s.size ≤ 140737488355328) (hBw : B ≤ w.heap.size) :
    Calls Tryz.prog 34 #[.pointer (some ⟨b, 0, none⟩), .string s] w fun e w' => e = .returned (.tuple #[.int .i64 s.size, .nilIface]) ∧ (Lib.BuilderAtF 54 5 B b (.pointer (some ⟨b, 0, none⟩)) (bs ++ Lib.strCells s) w' ∧ Below B w w' ∧ Lib.OthersKept 5 (some b) w w') :=
  Any.Builder_WriteString_k Go.Proofs.Tryz.lays166 Go.Proofs.Tryz.bx166 B b bs s w h hlen hBw
theorem Tryz.WriteByte_k (B b : Nat) (bs : List Value) (c : Int) (w : World) (h : Lib.IsBuilderF 54 5 B b bs w) (hlen : bs.length + 1 ≤ 140737488355328) (hBw : B ≤ w.heap.size) :
    Calls Tryz.prog 35 #[.pointer (some ⟨b, 0, none⟩), .int .u8 c] w fun e w' => e = .returned .nilIface ∧ (Lib.BuilderAtF 54 5 B b (.pointer (some ⟨b, 0, none⟩)) (bs ++ [.int .u8 c]) w' ∧ Below B w w' ∧ Lib.OthersKept 5 (some b) w w') :=
  Any.Builder_WriteByte_k Go.Proofs.Tryz.lays167 Go.Proofs.Tryz.bx167 B b bs c w h hlen hBw
theorem Tryz.String_f (B b : Nat) (l : List UInt8) (w : World) (h : Lib.IsBuilderF 54 5 B b (Lib.byteCells l) w) (hBw : B ≤ w.heap.size) :
    Calls Tryz.prog 37 #[.pointer (some ⟨b, 0, none⟩)] w fun e w' => e = .returned (.string ⟨l.toArray⟩) ∧ (Lib.IsBuilderF 54 5 B b (Lib.byteCells l) w' ∧ Below B w w') :=
  Any.Builder_String_any_f Go.Proofs.Tryz.lays169 Go.Proofs.Tryz.Builder_Extra_169 B b l w h hBw

theorem bdF_below {B b : Nat} {p : Value} {bs : List Value} {w w' : World} (h : Lib.BuilderAtF 54 5 B b p bs w) (hb : Below w.heap.size w w') : Lib.BuilderAtF 54 5 B b p bs w' := by
  have hlt := h.lt
  obtain ⟨hB, v, hbk, hown, hne⟩ := h
  refine ⟨hB, v, (hb.block b hlt).trans hbk, hown.kept (row := none) ⟨hb.os, hb.tape, hb.output, hb.size, fun k hk _ => hb.block k hk⟩ ?_, hne⟩
  cases hv : v.ownBlock <;> simp
theorem isF_below {B b : Nat} {bs : List Value} {w w' : World} (h : Lib.IsBuilderF 54 5 B b bs w) (hb : Below w.heap.size w w') : Lib.IsBuilderF 54 5 B b bs w' :=
  h.imp (fun h => bdF_below h hb) (fun h => bdF_below h hb)

/-- The builder of the call's own, at the first new block of w0, holds l. -/
structure WB (w0 : World) (l : Pm.Bs) (wr : World) : Prop where
  bd : Lib.IsBuilderF 54 5 w0.heap.size w0.heap.size (Lib.byteCells l) wr
  below : Below w0.heap.size w0 wr
/-- Beside it the entry x lies in the block E. -/
structure WS (w0 : World) (l : Pm.Bs) (E : Nat) (x : Pm.Ent) (wr : World) : Prop where
  wb : WB w0 l wr
  box : wr.heap[E]? = some (.cells #[.string ⟨x.sender.toArray⟩, .int .i64 x.date, .string ⟨x.raw.toArray⟩] 30 (0, 0))
  ne : E ≠ w0.heap.size
section
variable {w0 wr w' : World} {l t : Pm.Bs} {E : Nat} {x : Pm.Ent}
theorem WB.start (w : World) : WB w [] (w.alloc (.cells #[.pointer none, .slice none 0 0] 54)) :=
  ⟨Lib.IsBuilderF.of (Lib.fresh_isBuilder 54 5 w), (Below.refl _ _).alloc (Nat.le_refl _) _⟩
theorem WB.step (h : WB w0 l wr) (hb : Below wr.heap.size wr w') : WB w0 l w' := ⟨isF_below h.bd hb, h.below.trans (hb.mono h.below.size)⟩
theorem WB.box (h : WB w0 l wr) (x : Pm.Ent) : WS w0 l wr.heap.size x (wr.alloc (.cells #[.string ⟨x.sender.toArray⟩, .int .i64 x.date, .string ⟨x.raw.toArray⟩] 30)) := by
  refine ⟨h.step ((Below.refl _ _).alloc (Nat.le_refl _) _), heap_alloc_new wr _, ?_⟩
  have : w0.heap.size < wr.heap.size := by
    rcases h.bd with h | h <;> exact h.lt
  omega
theorem WS.step (h : WS w0 l E x wr) (hb : Below wr.heap.size wr w') : WS w0 l E x w' :=
  ⟨h.wb.step hb, (hb.block E (Array.getElem?_eq_some_iff.1 h.box).1).trans h.box, h.ne⟩
theorem WS.kept (h : WS w0 l E x wr) (hl : Lib.BuilderAtF 54 5 w0.heap.size w0.heap.size (.pointer (some ⟨w0.heap.size, 0, none⟩)) (Lib.byteCells t) w')
    (hb : Below w0.heap.size wr w') (ho : Lib.OthersKept 5 (some w0.heap.size) wr w') : WS w0 t E x w' :=
  ⟨⟨.inr hl, h.wb.below.trans hb⟩, ho E _ h.box (by intro e; exact h.ne (Option.some.inj e)) (by intro c fz e; injection e with _ e2; exact absurd e2 (by decide)), h.ne⟩
theorem WS.str (h : WS w0 l E x wr) (t : Pm.Bs) (hlen : l.length + t.length ≤ 140737488355328) :
    Calls Tryz.prog 34 #[.pointer (some ⟨w0.heap.size, 0, none⟩), .string ⟨t.toArray⟩] wr fun e w' => e = .returned (.tuple #[.int .i64 t.length, .nilIface]) ∧ WS w0 (l ++ t) E x w' := by
  refine (Tryz.WriteString_k w0.heap.size w0.heap.size _ ⟨t.toArray⟩ wr h.wb.bd (by rw [Lib.byteCells_length, Lib.size_eq]; simpa using hlen) h.wb.below.size).mono ?_
  rintro e w' ⟨rfl, h1, h2, h3⟩
  exact ⟨by rw [Lib.size_eq], h.kept (by rw [Lib.byteCells_append]; exact h1) h2 h3⟩
theorem WS.byte (h : WS w0 l E x wr) (c : UInt8) (hlen : l.length + 1 ≤ 140737488355328) :
    Calls Tryz.prog 35 #[.pointer (some ⟨w0.heap.size, 0, none⟩), .int .u8 c.toNat] wr fun e w' => e = .returned .nilIface ∧ WS w0 (l ++ [c]) E x w' := by
  refine (Tryz.WriteByte_k w0.heap.size w0.heap.size _ c.toNat wr h.wb.bd (by rw [Lib.byteCells_length]; exact hlen) h.wb.below.size).mono ?_
  rintro e w' ⟨rfl, h1, h2, h3⟩
  exact ⟨rfl, h.kept (by rw [Lib.byteCells_append]; exact h1) h2 h3⟩
theorem WS.asc (h : WS w0 l E x wr) (ht : Tab wr) :
    Calls Tryz.prog 18 #[.int .i64 x.date] wr fun e w' => e = .returned (.string ⟨(Pm.asctime x.date).toArray⟩) ∧ WS w0 l E x w' :=
  (asctime_any x.date wr ht).mono fun e w' ⟨a, b⟩ => ⟨a, h.step b⟩
theorem WS.c0 (h : WS w0 l E x wr) : wr.cell? ⟨E, 0, none⟩ = some (.string ⟨x.sender.toArray⟩) := by rw [cell_of_row wr E 0 _ _ _ h.box]; rfl
theorem WS.c1 (h : WS w0 l E x wr) : wr.cell? ⟨E, 1, none⟩ = some (.int .i64 x.date) := by rw [cell_of_row wr E 1 _ _ _ h.box]; rfl
theorem WS.c2 (h : WS w0 l E x wr) : wr.cell? ⟨E, 2, none⟩ = some (.string ⟨x.raw.toArray⟩) := by rw [cell_of_row wr E 2 _ _ _ h.box]; rfl
theorem WB.str (h : WB w0 l wr) : Calls Tryz.prog 37 #[.pointer (some ⟨w0.heap.size, 0, none⟩)] wr fun e w' => e = .returned (.string ⟨l.toArray⟩) ∧ Below w0.heap.size w0 w' :=
  (Tryz.String_f w0.heap.size w0.heap.size l wr h.bd h.below.size).mono fun e w' ⟨a, _, b⟩ => ⟨a, h.below.trans b⟩
end
end Go.Proofs.YtbhhaehdoiaihaaGreatDoor
