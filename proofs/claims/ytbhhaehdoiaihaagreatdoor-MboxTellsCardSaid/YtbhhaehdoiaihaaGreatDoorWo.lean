/- The walk of missivelaw16.small. -/
import Derived.Test.YtbhhaehdoiaihaaGreatDoorWn
namespace Go.Proofs.YtbhhaehdoiaihaaGreatDoor
open Go.RowKit

def rawB : Pm.Bs := [83, 58, 32, 120, 10, 10, 70, 114, 111, 109, 32, 104, 101, 114, 101, 10]
def restB : Pm.Bs := [83, 58, 32, 120, 10, 10, 62, 70, 114, 111, 109, 32, 104, 101, 114, 101, 10, 10]
def s1B : Pm.Bs := [70, 114, 111, 109, 32, 97, 32, 84, 104, 117, 32, 74, 97, 110, 32, 32, 49, 32, 48, 48, 58, 48, 48, 58, 48, 53, 32, 49, 57, 55, 48, 10] ++ restB
def s2B : Pm.Bs := [70, 114, 111, 109, 32, 97, 32, 121, 101, 115, 116, 101, 114, 100, 97, 121, 10] ++ restB
theorem read1 : Pm.read s1B = ([⟨[97], 5000, rawB⟩], []) := by kernel_rfl
theorem read2 : Pm.read s2B = ([⟨[97], 0, rawB⟩], [⟨2, 0⟩]) := by kernel_rfl
theorem read3 : Pm.read [120] = ([], [⟨1, 0⟩]) := by kernel_rfl

theorem con1 : (({ data := #[70, 114, 111, 109, 32, 97, 32, 84, 104, 117, 32, 74, 97, 110, 32, 32, 49, 32, 48, 48, 58, 48, 48, 58, 48, 53, 32, 49, 57, 55, 48, 10] } : ByteArray) ++ { data := #[83, 58, 32, 120, 10, 10, 62, 70, 114, 111, 109, 32, 104, 101, 114, 101, 10, 10] }) = ⟨s1B.toArray⟩ := by apply ByteArray.ext; simp; rfl
theorem con2 : (({ data := #[70, 114, 111, 109, 32, 97, 32, 121, 101, 115, 116, 101, 114, 100, 97, 121, 10] } : ByteArray) ++ { data := #[83, 58, 32, 120, 10, 10, 62, 70, 114, 111, 109, 32, 104, 101, 114, 101, 10, 10] }) = ⟨s2B.toArray⟩ := by apply ByteArray.ext; simp; rfl
theorem asc_pos (ms : Int) (h : Pm.isTime ms = true) : (Pm.asctime ms).isEmpty = false := by
  unfold Pm.asctime
  rw [if_pos h]
  unfold Pm.ascOf Pm.weekday
  generalize (ms / Pm.dayMs + 3) % 7 = k
  have := dayName_len k.toNat
  cases hd : Pm.dayName k.toNat with
  | nil => rw [hd] at this; simp at this
  | cons a l => rfl
theorem clean1 : Pm.clean ⟨[97], 5000, rawB⟩ = true := by
  unfold Pm.clean
  rw [asc_pos 5000 (by decide)]
  kernel_rfl

theorem cell_up {a b : World} {p : Addr} {v : Value} (hb : Below a.heap.size a b) (h : a.cell? p = some v) : b.cell? p = some v := (hb.cell (World.block_lt_of_cell? _ _ h)).trans h
theorem row_some {w : World} {base : Nat} {e : TypeId} {size n : Nat} {A : Option Addr} {c : Nat} {xs : List Value} (h : w.ownsRow base e size (.slice A n c) n xs) (hn : 0 < n) : ∃ g, A = some ⟨g, 0, none⟩ := by
  rcases h.2 with ⟨_, h0⟩ | ⟨g, cap, cur, h1, _⟩
  · omega
  · injection h1 with h1; exact ⟨g, h1⟩

/-- The results of mbox.Read where they are known. -/
theorem read_at (s : ByteArray) (es : List Pm.Ent) (ds : List Pm.Dam) (hs : s.size ≤ 1073741824) (hr : Pm.read s.data.toList = (es, ds)) (w : World) (ht : Tab w) :
    Calls Tryz.prog 9 #[.string s] w fun e w' => ∃ (Ae Ad : Option Addr) (ce cd : Nat), e = .returned (.tuple #[.slice Ae es.length ce, .slice Ad ds.length cd]) ∧
      w'.ownsRow w.heap.size 30 3 (.slice Ae es.length ce) es.length (entCells es) ∧
      w'.ownsRow w.heap.size 38 2 (.slice Ad ds.length cd) ds.length (damCells ds) ∧ Below w.heap.size w w' := by
  have h := read_any s hs w ht
  unfold ReadPost at h
  rw [hr] at h
  exact h

set_option maxRecDepth 100000 in
set_option maxHeartbeats 3200000 in
theorem small_any (w : World) (ht : Tab w) :
    Calls Tryz.prog 7 #[] w fun e w' => e = .returned (.bool true) ∧ Below w.heap.size w w' := by
  have R1 := Lib.hid (fun w => read_at ⟨s1B.toArray⟩ _ _ (by decide) read1 w)
  have R2 := Lib.hid (fun w => read_at ⟨s2B.toArray⟩ _ _ (by decide) read2 w)
  have R3 := Lib.hid (fun w => read_at ⟨#[120]⟩ _ _ (by decide) read3 w)
  have HT := Lib.hid ht
  clear ht
  go_enter Tryz.func7, Tryz.ntmps7
  go_wp2_with (first
    | (have _x := hb2; go_at_call 9; refine (R3.out _ (HT.out.below hb2)).mono ?_; rintro e w3 ⟨A5, A6, c5, c6, rfl, h5, h6, hb⟩; have HO5 := Lib.hid h5; have HO6 := Lib.hid h6; have hb3 := hb2.trans (hb.mono hb2.size); have HX3 := Lib.hid hb; clear hb h5 h6)
    | (have _x := hb1; go_at_call 9; rw [con2]; refine (R2.out _ (HT.out.below hb1)).mono ?_; rintro e w2 ⟨A3, A4, c3, c4, rfl, h3, h4, hb⟩; have HO3 := Lib.hid h3; have HO4 := Lib.hid h4; have hb2 := hb1.trans (hb.mono hb1.size); have HX2 := Lib.hid hb; clear hb h3 h4)
    | (go_at_call 9; rw [con1]; refine (R1.out _ HT.out).mono ?_; rintro e w1 ⟨A1, A2, c1, c2, rfl, h1, h2, hb⟩; have HO1 := Lib.hid h1; have HO2 := Lib.hid h2; have hb1 := hb; clear hb h1 h2))
  obtain ⟨g1, rfl⟩ := row_some HO1.out (by decide)
  obtain ⟨g3, rfl⟩ := row_some HO3.out (by decide)
  obtain ⟨g4, rfl⟩ := row_some HO4.out (by decide)
  obtain ⟨g6, rfl⟩ := row_some HO6.out (by decide)
  have hW3 : Below w3.heap.size w3 (w3.alloc (.cells #[.string ⟨#[97]⟩, .int .i64 5000, .string ⟨#[83, 58, 32, 120, 10, 10, 70, 114, 111, 109, 32, 104, 101, 114, 101, 10]⟩] 30)) := (Below.refl _ _).alloc (Nat.le_refl _) _
  have hW2 := HX3.out.trans (hW3.mono HX3.out.size)
  have hW1 := HX2.out.trans (hW2.mono HX2.out.size)
  have hW0 := hb3.trans (hW3.mono hb3.size)
  have HTW := Lib.hid (HT.out.below hW0)
  have k1 := fun j hj => (own_below HO1.out hW1).cellAt j hj
  have k3 := fun j hj => (own_below HO3.out hW2).cellAt j hj
  have k4 := fun j hj => (own_below HO4.out hW2).cellAt j hj
  have k6 := fun j hj => (own_below HO6.out hW3).cellAt j hj
  have ke := fun j u h => cells_new' w3 w3.heap.size rfl [.string ⟨#[97]⟩, .int .i64 5000, .string ⟨#[83, 58, 32, 120, 10, 10, 70, 114, 111, 109, 32, 104, 101, 114, 101, 10]⟩] 30 j u h
  have HW0 := Lib.hid hW0
  clear HO1 HO2 HO3 HO4 HO5 HO6 HX2 HX3 hW1 hW2 hW3 hW0 hb1 hb2 hb3 R1 R2 R3 HT
  have a0 := (k1 0 (by decide)).trans (show _ = some (Value.string ⟨#[97]⟩) from rfl)
  have a1 := (k1 1 (by decide)).trans (show _ = some (Value.int .i64 5000) from rfl)
  have a2 := (k1 2 (by decide)).trans (show _ = some (Value.string ⟨#[83, 58, 32, 120, 10, 10, 70, 114, 111, 109, 32, 104, 101, 114, 101, 10]⟩) from rfl)
  have b1 := (k3 1 (by decide)).trans (show _ = some (Value.int .i64 0) from rfl)
  have b2 := (k3 2 (by decide)).trans (show _ = some (Value.string ⟨#[83, 58, 32, 120, 10, 10, 70, 114, 111, 109, 32, 104, 101, 114, 101, 10]⟩) from rfl)
  have d0 := (k4 0 (by decide)).trans (show _ = some (Value.int .i64 2) from rfl)
  have d1 := (k4 1 (by decide)).trans (show _ = some (Value.int .i64 0) from rfl)
  have f0 := (k6 0 (by decide)).trans (show _ = some (Value.int .i64 1) from rfl)
  have e0 : World.cell? _ ⟨w3.heap.size, 0, none⟩ = _ := ke 0 _ rfl
  have e1 : World.cell? _ ⟨w3.heap.size, 1, none⟩ = _ := ke 1 _ rfl
  have e2 : World.cell? _ ⟨w3.heap.size, 2, none⟩ = _ := ke 2 _ rfl
  clear k1 k3 k4 k6 ke
  have hcl : Hid (∀ w, Tab w → Calls Tryz.prog 11 #[.agg #[.string ⟨#[97]⟩, .int .i64 5000, .string ⟨#[83, 58, 32, 120, 10, 10, 70, 114, 111, 109, 32, 104, 101, 114, 101, 10]⟩]] w fun e w' => e = .returned (.bool true) ∧ Below w.heap.size w w') :=
    Lib.hid fun w ht => (clean_any ⟨#[97]⟩ ⟨#[83, 58, 32, 120, 10, 10, 70, 114, 111, 109, 32, 104, 101, 114, 101, 10]⟩ 5000 (by decide) (by decide) w ht).mono fun e w' h => ⟨h.1.trans (ret_bool clean1), h.2⟩
  generalize w3.heap.size = ge at *
  generalize w3.alloc _ = W at *
  go_region_held3 (fun w' => w'.cell? ⟨g1, 0, none⟩ = some (.string ⟨#[97]⟩) ∧ w'.cell? ⟨g1, 1, none⟩ = some (.int .i64 5000) ∧ w'.cell? ⟨g1, 2, none⟩ = some (.string ⟨#[83, 58, 32, 120, 10, 10, 70, 114, 111, 109, 32, 104, 101, 114, 101, 10]⟩) ∧
      w'.cell? ⟨g3, 1, none⟩ = some (.int .i64 0) ∧ w'.cell? ⟨g3, 2, none⟩ = some (.string ⟨#[83, 58, 32, 120, 10, 10, 70, 114, 111, 109, 32, 104, 101, 114, 101, 10]⟩) ∧
      w'.cell? ⟨g4, 0, none⟩ = some (.int .i64 2) ∧ w'.cell? ⟨g4, 1, none⟩ = some (.int .i64 0) ∧ w'.cell? ⟨g6, 0, none⟩ = some (.int .i64 1) ∧
      w'.cell? ⟨ge, 0, none⟩ = some (.string ⟨#[97]⟩) ∧ w'.cell? ⟨ge, 1, none⟩ = some (.int .i64 5000) ∧ w'.cell? ⟨ge, 2, none⟩ = some (.string ⟨#[83, 58, 32, 120, 10, 10, 70, 114, 111, 109, 32, 104, 101, 114, 101, 10]⟩))
    (first | exact ⟨a0, a1, a2, b1, b2, d0, d1, f0, e0, e1, e2⟩ | exact ⟨cell_up hb a0, cell_up hb a1, cell_up hb a2, cell_up hb b1, cell_up hb b2, cell_up hb d0, cell_up hb d1, cell_up hb f0, cell_up hb e0, cell_up hb e1, cell_up hb e2⟩)
    (first | (go_at_call 11; refine (hcl.out _ (HTW.out.drewN 1)).mono ?_; rintro e w' ⟨rfl, hb⟩))
  go_wp2
  go_ret
  exact ⟨rfl, (below_drewN HW0.out 1).trans (hb.mono HW0.out.size)⟩
end Go.Proofs.YtbhhaehdoiaihaaGreatDoor
