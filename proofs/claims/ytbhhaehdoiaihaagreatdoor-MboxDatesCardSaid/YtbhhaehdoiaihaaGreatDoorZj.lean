/- The walk of missivelaw16.MboxLost. -/
import Derived.Test.YtbhhaehdoiaihaaGreatDoorZe
import Derived.Test.YtbhhaehdoiaihaaGreatDoorQd
import Derived.Test.YtbhhaehdoiaihaaGreatDoorZi
namespace Go.Proofs.YtbhhaehdoiaihaaGreatDoor
open Go.RowKit

theorem own_le {w : World} {base : Nat} {e : TypeId} {size n c : Nat} {A : Option Addr} {xs : List Value} (h : w.ownsRow base e size (.slice A n c) n xs) : n ≤ c := by
  rcases h.2 with ⟨h0, h1⟩ | ⟨g, cap, cur, h1, _, _, h2, _⟩
  · omega
  · injection h1 with h1 h3 h4; omega
theorem own_cells {w : World} {base c : Nat} {A : Option Addr} {es : List Pm.Ent} (h : w.ownsRow base 30 3 (.slice A es.length c) es.length (entCells es)) (hn : 0 < es.length) :
    ∃ g, A = some ⟨g, 0, none⟩ ∧ EntAt w g 0 es ∧ es.length ≤ c := by
  obtain ⟨g, rfl⟩ := row_some h hn
  obtain ⟨b, o, e, hat⟩ := (entS_of_own h).at_ hn
  injection e with e
  injection e with e1 e2
  subst e1 e2
  exact ⟨g, rfl, hat, own_le h⟩
theorem EntAt.s {w : World} {b o : Nat} {es : List Pm.Ent} (h : EntAt w b o es) (hl : es.length ≤ 9223372036854775807) : EntS w (some ⟨b, o, none⟩) es := ⟨hl, .inr ⟨b, o, rfl, h⟩⟩
theorem EntAt.front {w : World} {b o : Nat} {X Y : List Pm.Ent} (h : EntAt w b o (X ++ Y)) : EntAt w b o X := by
  have := h.sub 0 X.length (by omega) (by simp)
  rw [List.take_left' rfl] at this
  simpa using this
theorem EntAt.back {w : World} {b o : Nat} {X Y : List Pm.Ent} (h : EntAt w b o (X ++ Y)) (k : Nat) (hk : k = X.length) : EntAt w b (o + k * 3) Y := by
  subst hk
  have := h.sub X.length (X ++ Y).length (by simp) (Nat.le_refl _)
  rw [List.take_length, List.drop_left' rfl] at this
  exact this
theorem EntAt.c0 {w : World} {b o : Nat} {X Y : List Pm.Ent} {x : Pm.Ent} (h : EntAt w b o (X ++ x :: Y)) (k : Nat) (hk : k = X.length) : w.cell? ⟨b, o + k * 3, none⟩ = some (.string ⟨x.sender.toArray⟩) := by
  subst hk; have := h.sender X.length (by simp); simpa using this
theorem EntAt.c1 {w : World} {b o : Nat} {X Y : List Pm.Ent} {x : Pm.Ent} (h : EntAt w b o (X ++ x :: Y)) (k : Nat) (hk : k = X.length) : w.cell? ⟨b, o + k * 3 + 1, none⟩ = some (.int .i64 x.date) := by
  subst hk; have := h.date X.length (by simp); simpa using this
theorem EntAt.c2 {w : World} {b o : Nat} {X Y : List Pm.Ent} {x : Pm.Ent} (h : EntAt w b o (X ++ x :: Y)) (k : Nat) (hk : k = X.length) : w.cell? ⟨b, o + k * 3 + 2, none⟩ = some (.string ⟨x.raw.toArray⟩) := by
  subst hk; have := h.raw X.length (by simp); simpa using this

theorem drop_take_size (l : Pm.Bs) (k : Nat) : (⟨l.toArray⟩ : ByteArray).extract k l.length = ⟨(l.drop k).toArray⟩ := by
  rw [Lib.extract_eq]
  simp only
  rw [List.take_of_length_le (by simp)]

/-- What Read gives, with the lengths written out. -/
def Reads (s : Pm.Bs) (es : List Pm.Ent) (ds : List Pm.Dam) (n m : Nat) : Prop :=
  ∀ w, Tab w → Calls Tryz.prog 9 #[.string ⟨s.toArray⟩] w fun e w' => ∃ (Ae Ad : Option Addr) (ce cd : Nat), e = .returned (.tuple #[.slice Ae n ce, .slice Ad m cd]) ∧
      w'.ownsRow w.heap.size 30 3 (.slice Ae es.length ce) es.length (entCells es) ∧
      w'.ownsRow w.heap.size 38 2 (.slice Ad ds.length cd) ds.length (damCells ds) ∧ Below w.heap.size w w'
theorem reads_of (s : Pm.Bs) (es : List Pm.Ent) (ds : List Pm.Dam) (n m : Nat) (hs : s.length ≤ 1073741824) (hr : Pm.read s = (es, ds)) (hn : n = es.length) (hm : m = ds.length) : Reads s es ds n m := by
  subst hn hm
  exact fun w ht => read_at ⟨s.toArray⟩ es ds (by rw [Lib.size_eq]; exact hs) hr w ht

/-- The tail of a slice. -/
theorem EntAt.tail {w : World} {b o : Nat} {X Y : List Pm.Ent} (h : EntAt w b o (X ++ Y)) (k c : Nat) (hk : k = X.length) (hc : X.length + Y.length ≤ c) (hl : Y.length ≤ 9223372036854775807) :
    EntS w (if c = k then some ⟨b, o, none⟩ else some ⟨b, o + k * 3, none⟩) Y := by
  refine ⟨hl, ?_⟩
  split
  · left; omega
  · right; exact ⟨b, o + k * 3, rfl, h.back k hk⟩
theorem write_n (A : Option Addr) (n c : Nat) (es : List Pm.Ent) (w : World) (ht : Tab w) (hE : EntS w A es) (hn : n = es.length) (G : es.length ≤ 8 ∧ ∀ x ∈ es, x.sender.length ≤ 210 ∧ x.raw.length ≤ 600) :
    Calls Tryz.prog 15 #[.slice A n c] w (StrPost (Pm.write es) w) := by
  subst hn
  exact write_any A c es w ht hE (by omega) (fun x hx => by have := G.2 x hx; omega)

set_option maxRecDepth 100000 in
set_option maxHeartbeats 6400000 in
theorem lost_core (b o c : Nat) (T D : List Pm.Ent) (p x : Pm.Ent) (hfb : fewB (T ++ p :: x :: D) = true) (hcb : (T ++ p :: x :: D).all Pm.clean = true) (w : World) (ht : Tab w) (hat : EntAt w b o (T ++ p :: x :: D)) (hc : T.length + (D.length + 2) ≤ c) :
    Calls Tryz.prog 6 #[.slice (some ⟨b, o, none⟩) (T.length + (D.length + 2)) c, .int .i64 ((T.length : Int) + 1)] w (BoolPost true w) := by
  have G := good_of _ hfb hcb
  have hsm := Lib.hid (small_any w ht)
  have hlen : (T ++ p :: x :: D).length = T.length + (D.length + 2) := by simp
  have hn := G.n
  rw [hlen] at hn
  have hfew : Hid (∀ w, EntAt w b o (T ++ p :: x :: D) → Calls Tryz.prog 8 #[.slice (some ⟨b, o, none⟩) (T.length + (D.length + 2)) c] w fun e w' => e = .returned (.bool true) ∧ w = w') := by
    refine Lib.hid fun w h => ?_
    have := few_any (some ⟨b, o, none⟩) c _ w (h.s (by omega))
    rw [hlen, hfb] at this
    exact this
  have hcl : Hid (∀ w, Tab w → EntAt w b o (T ++ p :: x :: D) → Calls Tryz.prog 17 #[.slice (some ⟨b, o, none⟩) (T.length + (D.length + 2)) c] w fun e w' => e = .returned (.bool true) ∧ Below w.heap.size w w') := by
    refine Lib.hid fun w ht h => ?_
    have := cleanAll_any (some ⟨b, o, none⟩) c _ w ht (h.s (by omega)) (fun y hy => by have := G.size y hy; omega)
    rw [hlen, hcb] at this
    exact this
  have HT := Lib.hid ht
  have HE := Lib.hid hat
  have HG := Lib.hid G
  -- the strings
  obtain ⟨B, hB, hB5⟩ := Pm.write_ends T p (G.clean p (by simp))
  have hS := Pm.write_starts x D (G.clean x (by simp))
  have l1 : (Pm.write (T ++ [p])).length ≤ 12000 := Good.write_len ⟨by have := G.n; simp at this ⊢; omega, fun y hy => G.size y (by simp at hy ⊢; rcases hy with h | h <;> simp [h]), fun y hy => G.clean y (by simp at hy ⊢; rcases hy with h | h <;> simp [h])⟩
  have l2 : (Pm.write (x :: D)).length ≤ 12000 := Good.write_len ⟨by have := G.n; simp at this ⊢; omega, fun y hy => G.size y (by simp at hy ⊢; rcases hy with h | h <;> simp [h]), fun y hy => G.clean y (by simp at hy ⊢; rcases hy with h | h <;> simp [h])⟩
  have W1 : Hid (∀ A n c w, Tab w → EntS w A (T ++ [p]) → n = T.length + 1 → Calls Tryz.prog 15 #[.slice A n c] w (StrPost (Pm.write (T ++ [p])) w)) :=
    Lib.hid fun A n c w ht hE hn => write_n A n c (T ++ [p]) w ht hE (by simpa using hn) ⟨by have := G.n; simp at this ⊢; omega, fun y hy => G.size y (by simp at hy ⊢; rcases hy with h | h <;> simp [h])⟩
  have W2 : Hid (∀ A n c w, Tab w → EntS w A (x :: D) → n = D.length + 1 → Calls Tryz.prog 15 #[.slice A n c] w (StrPost (Pm.write (x :: D)) w)) :=
    Lib.hid fun A n c w ht hE hn => write_n A n c (x :: D) w ht hE (by simpa using hn) ⟨by have := G.n; simp at this ⊢; omega, fun y hy => G.size y (by simp at hy ⊢; rcases hy with h | h <;> simp [h])⟩
  have lb : (Pm.write (T ++ [p])).length = B.length + 1 := by rw [hB]; simp
  have R1 := Lib.hid (reads_of (Pm.write (T ++ [p]) ++ ([88, 114, 111, 109, 32] ++ (Pm.write (x :: D)).drop 5)) (T ++ ⟨p.sender, p.date, p.raw ++ ([10] ++ Pm.spoilt x ++ x.raw)⟩ :: D) [] (T.length + (D.length + 1)) 0
    (by simp only [List.length_append, List.length_drop]; simp; omega) (Pm.read_lost T D p x G.clean) (by simp) rfl)
  have R2 : Hid (Pm.endsB p.raw = false → Reads ((Pm.write (T ++ [p])).take ((Pm.write (T ++ [p])).length - 1) ++ Pm.write (x :: D)) (T ++ p :: x :: D) [⟨3, ((Pm.write (T ++ [p])).length : Int) - 1⟩] (T.length + (D.length + 2)) 1) :=
    Lib.hid fun h => reads_of _ _ _ _ _ (by simp only [List.length_append, List.length_take]; omega) (Pm.read_join T D p x G.clean h) (by simp) rfl
  unfold Reads at R1 R2
  unfold StrPost at W1 W2
  have n1 : 2 ≤ (Pm.write (T ++ [p])).length := by omega
  have n2 := hS.2
  clear hS hB lb hB5 hfb hcb
  generalize Pm.write (T ++ [p]) = Bf at *
  generalize Pm.write (x :: D) = Bh at *
  have E1 : Hid (∀ w', Below w.heap.size w w' → EntS w' (some ⟨b, o, none⟩) (T ++ [p])) := Lib.hid fun w' hb => by
    have h := HE.out.up hb
    rw [show T ++ p :: x :: D = (T ++ [p]) ++ (x :: D) by simp] at h
    exact h.front.s (by simp; omega)
  have E2 : Hid (∀ w', Below w.heap.size w w' → EntS w' (some ⟨b, o + (T.length + 1) * 3, none⟩) (x :: D)) := Lib.hid fun w' hb => by
    have h := HE.out.up hb
    rw [show T ++ p :: x :: D = (T ++ [p]) ++ (x :: D) by simp] at h
    exact (h.back (T.length + 1) (by simp)).s (by simp; omega)
  have X1 : Hid ((⟨Bf.toArray⟩ ++ ⟨#[88, 114, 111, 109, 32]⟩ ++ (⟨Bh.toArray⟩ : ByteArray).extract 5 Bh.length : ByteArray) = ⟨(Bf ++ ([88, 114, 111, 109, 32] ++ Bh.drop 5)).toArray⟩) := Lib.hid (by
    rw [drop_take_size]; apply ByteArray.ext; simp)
  have HC := Lib.hid hc
  have d1 : ¬ 9223372036854775807 < Bf.length + 5 := by omega
  have d2 : ¬ 9223372036854775807 < Bf.length + 5 + (Bh.length - 5) := by omega
  have hL1 : (T ++ (⟨p.sender, p.date, p.raw ++ ([10] ++ Pm.spoilt x ++ x.raw)⟩ : Pm.Ent) :: D).length = T.length + (D.length + 1) := by simp
  have k1 : ¬ ((T.length : Int) + 1) < 1 := by omega
  have k2 : ¬ (T.length : Int) + (D.length + 2) ≤ (T.length : Int) + 1 := by omega
  have k3 : ¬ (Bf.length : Int) < 2 := by omega
  have k4 : ¬ (Bh.length : Int) < 5 := by omega
  have k5 : (T.length : Int) ≤ 8 := by omega
  have k6 : (D.length : Int) ≤ 8 := by omega
  have k7 : (T.length : Int) + 1 ≤ c := by omega
  have k8 : (T.length : Int) + 1 ≤ T.length + (D.length + 2) := by omega
  clear hat ht G
  unfold BoolPost
  go_enter Tryz.func6, Tryz.ntmps6
  go_wp2_with (first
    | (go_at_call 7; refine (hsm.out).mono ?_; rintro e w1 ⟨rfl, hb1⟩)
    | (go_at_call 8; refine (hfew.out _ (HE.out.up hb1)).mono ?_; rintro e w' ⟨rfl, rfl⟩)
    | (go_at_call 17; refine (hcl.out _ (HT.out.below hb1) (HE.out.up hb1)).mono ?_; rintro e w2 ⟨rfl, hb⟩; have hb2 := hb1.trans (hb.mono hb1.size); clear hb)
    | (have _x := hb4; go_at_call 9; rw [X1.out]; have hq := R1.out w4 (HT.out.below hb4); refine hq.mono ?_; clear hq; rintro e w5 ⟨A1, A2, c1, c2, rfl, h1, h2, hb⟩; obtain ⟨g, rfl, hat1, hle1⟩ := own_cells h1 (by rw [hL1]; omega); rw [hL1] at hle1; have HA := Lib.hid hat1; have hb5 := hb4.trans (hb.mono hb4.size); clear hb h1 h2 hat1)
    | (have _x := hb3; go_at_call 15; have hq := W2.out (some ⟨b, o + (T.length + 1) * 3, none⟩) (T.length + (D.length + 2) - (T.length + 1)) (c - (T.length + 1)) w3 (HT.out.below hb3) (E2.out _ hb3) (by omega); refine hq.mono ?_; clear hq; rintro e w4 ⟨rfl, hb⟩; have hb4 := hb3.trans (hb.mono hb3.size); clear hb)
    | (go_at_call 15; have hq := W1.out (some ⟨b, o, none⟩) (T.length + 1) c w2 (HT.out.below hb2) (E1.out _ hb2) rfl; refine hq.mono ?_; clear hq; rintro e w3 ⟨rfl, hb⟩; have hb3 := hb2.trans (hb.mono hb2.size); clear hb))
  have q1 : w5.cell? ⟨g, T.length * 3, none⟩ = some (.string ⟨p.sender.toArray⟩) := by have := HA.out.c0 T.length rfl; simpa using this
  have q2 : w5.cell? ⟨b, o + T.length * 3, none⟩ = some (.string ⟨p.sender.toArray⟩) := (HE.out.up hb5).c0 T.length rfl
  have k9 : (T.length : Int) + 1 ≤ c1 := by omega
  have k10 : (T.length : Int) ≤ c1 := by omega
  have k11 : (T.length : Int) ≤ c := by omega
  have k12 : (T.length : Int) + 1 + 1 ≤ T.length + (D.length + 2) := by omega
  have k13 : (T.length : Int) + 1 ≤ T.length + (D.length + 1) := by omega
  have e1 : IntKind.i64.wrap ((T.length : Int) + ((D.length : Int) + 2) - 1) = (T.length : Int) + ((D.length : Int) + 1) := by rw [IntWalk.i64_in _ (by omega)]; omega
  have e2 : IntKind.i64.wrap ((T.length : Int) + 1 - 1) = (T.length : Int) := by rw [IntWalk.i64_in _ (by omega)]; omega
  have e3 : IntKind.i64.wrap ((T.length : Int) + 1 + 1) = (T.length : Int) + 2 := by rw [IntWalk.i64_in _ (by omega)]; omega
  have e4 : IntKind.i64.wrap (T.length : Int) = (T.length : Int) := by rw [IntWalk.i64_in _ (by omega)]
  have e5 : IntKind.i64.wrap ((T.length : Int) + 2) = (T.length : Int) + 2 := by rw [IntWalk.i64_in _ (by omega)]
  have j1 : (T.length : Int) < (T.length : Int) + ((D.length : Int) + 1) := by omega
  have j2 : (T.length : Int) < (T.length : Int) + ((D.length : Int) + 2) := by omega
  have j3 : (T.length : Int) + 1 < (T.length : Int) + ((D.length : Int) + 2) := by omega
  have j4 : (0 : Int) < (D.length : Int) + 1 := by omega
  have j5 : (0 : Int) < (D.length : Int) + 2 := by omega
  have j6 : (1 : Int) < (D.length : Int) + 2 := by omega
  have f1 : (T.length : Int) + 2 ≤ T.length + (D.length + 2) := by omega
  have z0 : (0 : Int) ≤ (T.length : Int) := by omega
  have z1 : (0 : Int) ≤ (T.length : Int) + 1 := by omega
  have z2 : (0 : Int) ≤ (T.length : Int) + 2 := by omega
  have y1 : ¬ c1 = 0 := by omega
  have y2 : ¬ c = 0 := by omega
  have t2 : ((T.length : Int) + 2).toNat = T.length + 2 := by omega
  have t1 : ((T.length : Int) + 1).toNat = T.length + 1 := by omega
  have B5 : Hid (Below w5.heap.size w5 w5.drew) := Lib.hid (below_drewN (Below.refl _ _) 1)
  have HEd : Hid (EntAt w5.drew b o (T ++ p :: x :: D)) := Lib.hid ((HE.out.up hb5).up B5.out)
  have HAd : Hid (EntAt w5.drew g 0 (T ++ ⟨p.sender, p.date, p.raw ++ ([10] ++ Pm.spoilt x ++ x.raw)⟩ :: D)) := Lib.hid (HA.out.up B5.out)
  have S1 := Lib.hid (same_lists2 (some ⟨g, 0, none⟩) (some ⟨b, o, none⟩) c1 c T.length T.length T T w5.drew (HAd.out.front.s (by omega)) (HEd.out.front.s (by omega)) rfl rfl rfl)
  obtain ⟨a1, i1⟩ : ∃ a1, (if c1 = T.length + 1 then some (⟨g, 0, none⟩ : Addr) else some ⟨g, (T.length + 1) * 3, none⟩) = some ⟨g, a1, none⟩ := by split <;> exact ⟨_, rfl⟩
  obtain ⟨a2, i2⟩ : ∃ a2, (if c = T.length + 2 then some (⟨b, o, none⟩ : Addr) else some ⟨b, o + (T.length + 2) * 3, none⟩) = some ⟨b, a2, none⟩ := by split <;> exact ⟨_, rfl⟩
  have S2 : Hid (∀ w6, Below w5.drew.heap.size w5.drew w6 → Calls Tryz.prog 13 #[.slice (some ⟨g, a1, none⟩) (T.length + (D.length + 1) - (T.length + 1)) (c1 - (T.length + 1)), .slice (some ⟨b, a2, none⟩) (T.length + (D.length + 2) - (T.length + 2)) (c - (T.length + 2))] w6 (BoolPost true w6)) := Lib.hid fun w6 hb => by
    have h1 := HAd.out.up hb
    rw [show T ++ (⟨p.sender, p.date, p.raw ++ ([10] ++ Pm.spoilt x ++ x.raw)⟩ : Pm.Ent) :: D = (T ++ [⟨p.sender, p.date, p.raw ++ ([10] ++ Pm.spoilt x ++ x.raw)⟩]) ++ D by simp] at h1
    have h1' := h1.tail (T.length + 1) c1 (by simp) (by simp; omega) (by omega)
    rw [Nat.zero_add, i1] at h1'
    have h2 := HEd.out.up hb
    rw [show T ++ p :: x :: D = (T ++ [p, x]) ++ D by simp] at h2
    have h2' := h2.tail (T.length + 2) c (by simp) (by simp; omega) (by omega)
    rw [i2] at h2'
    exact same_lists2 _ _ _ _ _ _ D D w6 h1' h2' rfl (by omega) (by omega)
  unfold BoolPost at S1 S2
  clear R1 W1 W2 hfew hcl hsm E1 E2 X1 d1 d2 k1 k2 k3 k4
  go_region_held3 (fun w' => w'.cell? ⟨g, T.length * 3, none⟩ = some (.string ⟨p.sender.toArray⟩) ∧ w'.cell? ⟨b, o + T.length * 3, none⟩ = some (.string ⟨p.sender.toArray⟩))
    (first | exact ⟨cell_up hb7 q1, cell_up hb7 q2⟩ | exact ⟨cell_up hb6 q1, cell_up hb6 q2⟩ | exact ⟨q1, q2⟩)
    (first | (have _x := hb6; go_at_call 13; refine (S2.out _ hb6).mono ?_; rintro e w7 ⟨rfl, hb⟩; have hb7 := hb6.trans (hb.mono hb6.size)) | (go_at_call 13; refine (S1.out).mono ?_; rintro e w6 ⟨rfl, hb⟩; have hb6 := hb))
  go_wp2
  have hb7' : Below w.heap.size w w7 := (hb5.trans (B5.out.mono hb5.size)).trans (hb7.mono (hb5.trans (B5.out.mono hb5.size)).size)
  have HB7 : Hid (Below w.heap.size w w7.drew) := Lib.hid (hb7'.trans (below_drewN (Below.refl _ _) 1))
  have H57 := Lib.hid hb7
  have ha := HE.out.up hb7'
  have r1 := ha.c2 T.length rfl
  have hr : T ++ p :: x :: D = (T ++ [p]) ++ x :: D := by simp
  rw [hr] at ha
  have r2 := ha.c0 (T.length + 1) (by simp)
  have r3 := ha.c1 (T.length + 1) (by simp)
  have r4 := ha.c2 (T.length + 1) (by simp)
  have AS := Lib.hid (asctime_any x.date w7.drew (HT.out.below HB7.out))
  unfold StrPost at AS
  have m1 := HG.out.size p (by simp)
  have m2 := HG.out.size x (by simp)
  have m3 := asc_len x.date
  clear ha hr q1 q2 hb hb6 hb7 hb7' S1 S2 i1 i2 HEd
  generalize hasc : Pm.asctime x.date = Asc at *
  generalize hpr : p.raw = PR at *
  generalize hxr : x.raw = XR at *
  generalize hxs : x.sender = XS at *
  have g1 : ¬ 9223372036854775807 < PR.length + 6 := by omega
  have g2 : ¬ 9223372036854775807 < PR.length + 6 + XS.length := by omega
  have g3 : ¬ 9223372036854775807 < PR.length + 6 + XS.length + 1 := by omega
  have g4 : ¬ 9223372036854775807 < PR.length + 6 + XS.length + 1 + Asc.length := by omega
  have g5 : ¬ 9223372036854775807 < PR.length + 6 + XS.length + 1 + Asc.length + 1 := by omega
  have g6 : ¬ 9223372036854775807 < PR.length + 6 + XS.length + 1 + Asc.length + 1 + XR.length := by omega
  go_region_held3 (fun w' => w'.cell? ⟨b, o + T.length * 3 + 2, none⟩ = some (.string ⟨PR.toArray⟩) ∧ w'.cell? ⟨b, o + (T.length + 1) * 3, none⟩ = some (.string ⟨XS.toArray⟩) ∧
      w'.cell? ⟨b, o + (T.length + 1) * 3 + 1, none⟩ = some (.int .i64 x.date) ∧ w'.cell? ⟨b, o + (T.length + 1) * 3 + 2, none⟩ = some (.string ⟨XR.toArray⟩))
    (first | exact ⟨cell_up hb8 r1, cell_up hb8 r2, cell_up hb8 r3, cell_up hb8 r4⟩ | exact ⟨r1, r2, r3, r4⟩)
    (first | (go_at_call 18; refine (AS.out).mono ?_; rintro e w8 ⟨rfl, hb⟩; have hb8 := hb))
  have B8 : Hid (Below w.heap.size w w8) := Lib.hid (HB7.out.trans (hb8.mono HB7.out.size))
  have s2 := cell_up hb8 r1
  have s0 := cell_up H57.out (HAd.out.c2 T.length rfl)
  have s1 := cell_up hb8 s0
  have X2 : (⟨PR.toArray⟩ ++ ⟨#[10, 88, 114, 111, 109, 32]⟩ ++ ⟨XS.toArray⟩ ++ ⟨#[32]⟩ ++ ⟨Asc.toArray⟩ ++ ⟨#[10]⟩ ++ ⟨XR.toArray⟩ : ByteArray) = ⟨(PR ++ ([10] ++ Pm.spoilt x ++ XR)).toArray⟩ := by
    apply ByteArray.ext; simp [Pm.spoilt, hxs, hasc]
  rw [Nat.zero_add] at s1
  rw [X2]
  have hEn := Lib.hid (ends_any PR (by omega) w8)
  have X3 : Hid (((⟨Bf.toArray⟩ : ByteArray).extract 0 (Bf.length - 1) ++ ⟨Bh.toArray⟩ : ByteArray) = ⟨(Bf.take (Bf.length - 1) ++ Bh).toArray⟩) := Lib.hid (by rw [ext_list]; apply ByteArray.ext; simp)
  dsimp only at s1
  clear X2 hb8 hb s0 r1 r2 r3 r4 g1 g2 g3 g4 g5 g6 AS H57 HAd hxs hasc hxr hpr
  generalize (PR ++ ([10] ++ Pm.spoilt x ++ XR)) = Rw at *
  unfold BoolPost at hEn
  have e6 : IntKind.i64.wrap ((Bf.length : Int) - 1) = (Bf.length : Int) - 1 := by rw [IntWalk.i64_in _ (by omega)]
  have e7 : ((Bf.length : Int) - 1).toNat = Bf.length - 1 := by omega
  have u1 : (0 : Int) ≤ (Bf.length : Int) - 1 := by omega
  have u2 : (Bf.length : Int) - 1 ≤ (Bf.length : Int) := by omega
  have u3 : ¬ 9223372036854775807 < Bf.length - 1 + Bh.length := by omega
  cases hen : Pm.endsB PR with
  | true =>
    rw [hen] at hEn
    go_wp2_with (go_at_call 19; refine (hEn.out).mono ?_; rintro e w9 ⟨rfl, hb⟩; have hb9 := B8.out.trans (hb.mono B8.out.size); clear hb)
    go_ret
    exact ⟨rfl, hb9⟩
  | false =>
    rw [hen] at hEn
    have R3 := Lib.hid (R2.out hen)
    clear R2
    go_wp2_with (first
      | (go_at_call 13; have hq := same_lists2 A3 (some ⟨b, o, none⟩) c3 c (T.length + (D.length + 2)) (T.length + (D.length + 2)) _ _ w10 HB3.out ((HE.out.up hb10).s (by rw [hlen]; omega)) rfl hlen.symm hlen.symm; unfold BoolPost at hq; refine hq.mono ?_; clear hq; rintro e w11 ⟨rfl, hb⟩; have d2 := cell_up hb d0; have d3 := cell_up hb d1; have hb11 := hb10.trans (hb.mono hb10.size); clear hb)
      | (have _x := hb9; go_at_call 9; rw [X3.out]; have hq := R3.out w9 (HT.out.below hb9); refine hq.mono ?_; clear hq; rintro e w10 ⟨A3, A4, c3, c4, rfl, h1, h2, hb⟩; obtain ⟨gd, rfl⟩ := row_some h2 Nat.one_pos; have HB3 := Lib.hid (entS_of_own h1); have d0 : w10.cell? ⟨gd, 0, none⟩ = some (.int .i64 3) := (h2.cellAt 0 (show 0 < 1 * 2 by decide)).trans rfl; have d1 : w10.cell? ⟨gd, 1, none⟩ = some (.int .i64 ((Bf.length : Int) - 1)) := (h2.cellAt 1 (show 1 < 1 * 2 by decide)).trans rfl; have hb10 := hb9.trans (hb.mono hb9.size); clear hb h1 h2)
      | (go_at_call 19; refine (hEn.out).mono ?_; rintro e w9 ⟨rfl, hb⟩; have hb9 := B8.out.trans (hb.mono B8.out.size); clear hb))
    go_ret
    exact ⟨rfl, hb11⟩
end Go.Proofs.YtbhhaehdoiaihaaGreatDoor
