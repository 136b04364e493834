/- The walk of missivelaw16.MboxDates. -/
import Derived.Test.YtbhhaehdoiaihaaGreatDoorZj
namespace Go.Proofs.YtbhhaehdoiaihaaGreatDoor
open Go.RowKit

/-- The first k letters of a word. -/
theorem letters_more (w : Pm.Bs) (k : Nat) (h : k < w.length) (h1 : Pm.letters (w.take k) = true) (h2 : 97 ≤ w[k].toNat) (h3 : w[k].toNat ≤ 122) : Pm.letters (w.take (k + 1)) = true := by
  unfold Pm.letters at *
  refine all_take _ w k h h1 ?_
  simp only [Bool.and_eq_true, decide_eq_true_eq, UInt8.le_iff_toNat_le]
  exact ⟨h2, h3⟩
theorem entCells_set (T D : List Pm.Ent) (x : Pm.Ent) (d : Int) : (entCells (T ++ x :: D)).set (T.length * 3 + 1) (.int .i64 d) = entCells (T ++ ⟨x.sender, d, x.raw⟩ :: D) := by
  induction T with
  | nil => rfl
  | cons t T ih =>
    rw [List.length_cons, show (T.length + 1) * 3 + 1 = (T.length * 3 + 1) + 3 by omega]
    have e1 : ∀ Y : List Pm.Ent, entCells (t :: Y) = .string ⟨t.sender.toArray⟩ :: .int .i64 t.date :: .string ⟨t.raw.toArray⟩ :: entCells Y := fun Y => rfl
    rw [List.cons_append, List.cons_append, e1, e1, List.set_cons_succ, List.set_cons_succ, List.set_cons_succ, ih]

set_option maxRecDepth 100000 in
set_option maxHeartbeats 6400000 in
theorem dates_core (b o c : Nat) (T D : List Pm.Ent) (x : Pm.Ent) (s : ByteArray) (hs : s.size ≤ 20) (hfb : fewB (T ++ x :: D) = true) (hcb : (T ++ x :: D).all Pm.clean = true) (w : World) (ht : Tab w) (hat : EntAt w b o (T ++ x :: D)) (hc : T.length + (D.length + 1) ≤ c) :
    Calls Tryz.prog 5 #[.slice (some ⟨b, o, none⟩) (T.length + (D.length + 1)) c, .int .i64 (T.length : Int), .string s] w (BoolPost true w) := by
  have G := good_of _ hfb hcb
  have hsm := Lib.hid (small_any w ht)
  have hlen : (T ++ x :: D).length = T.length + (D.length + 1) := by simp
  have hn := G.n
  rw [hlen] at hn
  have hfew : Hid (∀ w, EntAt w b o (T ++ x :: D) → Calls Tryz.prog 8 #[.slice (some ⟨b, o, none⟩) (T.length + (D.length + 1)) c] w fun e w' => e = .returned (.bool true) ∧ w = w') := by
    refine Lib.hid fun w h => ?_
    have := few_any (some ⟨b, o, none⟩) c _ w (h.s (by omega))
    rw [hlen, hfb] at this
    exact this
  have hcl : Hid (∀ w, Tab w → EntAt w b o (T ++ x :: D) → Calls Tryz.prog 17 #[.slice (some ⟨b, o, none⟩) (T.length + (D.length + 1)) c] w fun e w' => e = .returned (.bool true) ∧ Below w.heap.size w w') := by
    refine Lib.hid fun w ht h => ?_
    have := cleanAll_any (some ⟨b, o, none⟩) c _ w ht (h.s (by omega)) (fun y hy => by have := G.size y hy; omega)
    rw [hlen, hcb] at this
    exact this
  have HT := Lib.hid ht
  have HE := Lib.hid hat
  have HG := Lib.hid G
  -- the strings
  have hx := G.clean x (by simp)
  have l1 : (Pm.write T).length ≤ 12000 := Good.write_len ⟨by have := G.n; simp at this ⊢; omega, fun y hy => G.size y (by simp [hy]), fun y hy => G.clean y (by simp [hy])⟩
  have l2 : (Pm.write D).length ≤ 12000 := Good.write_len ⟨by have := G.n; simp at this ⊢; omega, fun y hy => G.size y (by simp [hy]), fun y hy => G.clean y (by simp [hy])⟩
  have l3 : (Pm.write [x]).length ≤ 12000 := Good.write_len ⟨by simp, fun y hy => G.size y (by simp at hy; simp [hy]), fun y hy => G.clean y (by simp at hy; simp [hy])⟩
  have W1 : Hid (∀ A n c w, Tab w → EntS w A T → n = T.length → Calls Tryz.prog 15 #[.slice A n c] w (StrPost (Pm.write T) w)) :=
    Lib.hid fun A n c w ht hE hn => write_n A n c T w ht hE hn ⟨by have := G.n; simp at this ⊢; omega, fun y hy => G.size y (by simp [hy])⟩
  have W2 : Hid (∀ A n c w, Tab w → EntS w A [x] → n = 1 → Calls Tryz.prog 15 #[.slice A n c] w (StrPost (Pm.write [x]) w)) :=
    Lib.hid fun A n c w ht hE hn => write_n A n c [x] w ht hE hn ⟨by simp, fun y hy => G.size y (by simp at hy; simp [hy])⟩
  have W3 : Hid (∀ A n c w, Tab w → EntS w A D → n = D.length → Calls Tryz.prog 15 #[.slice A n c] w (StrPost (Pm.write D) w)) :=
    Lib.hid fun A n c w ht hE hn => write_n A n c D w ht hE hn ⟨by have := G.n; simp at this ⊢; omega, fun y hy => G.size y (by simp [hy])⟩
  have m1 := G.size x (by simp)
  have m2 := asc_len x.date
  have hone := Pm.write_one x hx
  have hsl : Pm.sl x = Pm.fromB ++ x.sender ++ [32] ++ Pm.asctime x.date ++ [10] := rfl
  have R1 : Hid (Pm.letters s.data.toList = true → Reads (Pm.write T ++ (Pm.sepLine x.sender s.data.toList ++ (Pm.restOf x ++ Pm.write D))) (T ++ ⟨x.sender, 0, x.raw⟩ :: D) [⟨2, ((Pm.write T).length : Int)⟩] (T.length + (D.length + 1)) 1) :=
    Lib.hid fun h => reads_of _ _ _ _ _ (by
      have h1 : (Pm.write [x]).length = (Pm.sl x).length + (Pm.restOf x).length := by rw [hone, List.length_append]
      have h2 : (Pm.sepLine x.sender s.data.toList).length = x.sender.length + s.size + 7 := by rw [Lib.size_eq s]; simp [Pm.sepLine, Pm.fromB]; omega
      simp only [List.length_append]; omega) (Pm.read_date T D x _ G.clean h) (by simp) rfl
  unfold StrPost at W1 W2 W3
  unfold Reads at R1
  have hS : ∀ Q : Pm.Bs, Pm.sepLine x.sender Q = Pm.fromB ++ x.sender ++ [32] ++ Q ++ [10] := fun _ => rfl
  have Y1 : Hid (∀ Q : ByteArray, ((⟨(Pm.write T).toArray⟩ ++ ⟨#[70, 114, 111, 109, 32]⟩ ++ ⟨x.sender.toArray⟩ ++ ⟨#[32]⟩ ++ Q ++ ⟨#[10]⟩ ++ ⟨(Pm.restOf x).toArray⟩ ++ ⟨(Pm.write D).toArray⟩ : ByteArray) = ⟨(Pm.write T ++ (Pm.sepLine x.sender Q.data.toList ++ (Pm.restOf x ++ Pm.write D))).toArray⟩)) :=
    Lib.hid fun Q => by apply ByteArray.ext; simp [Pm.sepLine, Pm.fromB]
  have Y2 : Hid ((⟨#[70, 114, 111, 109, 32]⟩ ++ ⟨x.sender.toArray⟩ ++ ⟨#[32]⟩ ++ ⟨(Pm.asctime x.date).toArray⟩ ++ ⟨#[10]⟩ : ByteArray) = ⟨(Pm.sl x).toArray⟩) :=
    Lib.hid (by apply ByteArray.ext; simp [Pm.sl, Pm.sepLine, Pm.fromB])
  have hz : (Pm.sl x).length = 5 + x.sender.length + 1 + (Pm.asctime x.date).length + 1 := by rw [hsl]; simp [Pm.fromB]; omega
  rw [hone] at W2 l3
  have AS := Lib.hid (fun w ht => asctime_any x.date w ht)
  unfold StrPost at AS
  generalize Pm.write T = Bf at *
  generalize Pm.write D = Bd at *
  generalize Pm.restOf x = Rs at *
  generalize Pm.sl x = Ls at *
  generalize Pm.asctime x.date = Asc at *
  have Y3 : (⟨(Ls ++ Rs).toArray⟩ : ByteArray).extract 0 Ls.length = ⟨Ls.toArray⟩ := by rw [ext_list]; simp
  have Y4 : (⟨(Ls ++ Rs).toArray⟩ : ByteArray).extract Ls.length (Ls.length + Rs.length) = ⟨Rs.toArray⟩ := by
    rw [← List.length_append, drop_take_size]; simp
  rw [List.length_append] at l3
  have HZ := Lib.hid hz
  have HL := Lib.hid hlen
  clear hz hone hsl hS hx G hat ht hfb hcb hlen
  have E1 : Hid (∀ w', Below w.heap.size w w' → EntS w' (some ⟨b, o, none⟩) T) := Lib.hid fun w' hb => (HE.out.up hb).front.s (by omega)
  have E2 : Hid (∀ w', Below w.heap.size w w' → EntS w' (some ⟨b, o + T.length * 3, none⟩) [x]) := Lib.hid fun w' hb => by
    have h := (HE.out.up hb).back T.length rfl
    rw [show x :: D = [x] ++ D by rfl] at h
    exact h.front.s (by simp)
  obtain ⟨a2, i2⟩ : ∃ a2, (if c = T.length + 1 then some (⟨b, o, none⟩ : Addr) else some ⟨b, o + (T.length + 1) * 3, none⟩) = some ⟨b, a2, none⟩ := by split <;> exact ⟨_, rfl⟩
  have E3 : Hid (∀ w', Below w.heap.size w w' → EntS w' (some ⟨b, a2, none⟩) D) := Lib.hid fun w' hb => by
    have h := HE.out.up hb
    rw [show T ++ x :: D = (T ++ [x]) ++ D by simp] at h
    have h' := h.tail (T.length + 1) c (by simp) (by simp; omega) (by omega)
    rw [i2] at h'
    exact h'
  have HC := Lib.hid hc
  have k1 : (0 : Int) ≤ (T.length : Int) := by omega
  have k2 : (T.length : Int) < (T.length : Int) + ((D.length : Int) + 1) := by omega
  have k3 : ¬ 20 < (s.size : Int) := by omega
  have k4 : (0 : Int) < (D.length : Int) + 1 := by omega
  have k5 : (T.length : Int) ≤ 8 := by omega
  have k6 : (D.length : Int) ≤ 8 := by omega
  have k7 : (T.length : Int) ≤ c := by omega
  have k8 : (T.length : Int) + 1 ≤ c := by omega
  have k9 : (T.length : Int) + 1 ≤ (T.length : Int) + ((D.length : Int) + 1) := by omega
  have k10 : ¬ c = T.length := by omega
  have k11 : ¬ c = 0 := by omega
  have k12 : (T.length : Int) ≤ (T.length : Int) + 1 := by omega
  have k13 : (0 : Int) ≤ (T.length : Int) + 1 := by omega
  have e1 : IntKind.i64.wrap ((T.length : Int) + 1) = (T.length : Int) + 1 := by rw [IntWalk.i64_in _ (by omega)]
  have t1 : ((T.length : Int) + 1).toNat = T.length + 1 := by omega
  unfold BoolPost
  go_enter Tryz.func5, Tryz.ntmps5
  go_wp2_with (first
    | (go_at_call 7; refine (hsm.out).mono ?_; rintro e w1 ⟨rfl, hb1⟩)
    | (go_at_call 8; refine (hfew.out _ (HE.out.up hb1)).mono ?_; rintro e w' ⟨rfl, rfl⟩)
    | (go_at_call 17; refine (hcl.out _ (HT.out.below hb1) (HE.out.up hb1)).mono ?_; rintro e w2 ⟨rfl, hb⟩; have hb2 := hb1.trans (hb.mono hb1.size); clear hb))
  go_loop [8] (fun i => ∃ k : Nat, k ≤ s.size ∧ i = .int .i64 k ∧ Pm.letters (s.data.toList.take k) = true) (fun i => s.size - (intOf i).toNat)
  case atStart => exact ⟨0, by omega, rfl, by simp [Pm.letters]⟩
  case round =>
    obtain ⟨k, hk, rfl, hd⟩ := hrel
    have HD := Lib.hid hd
    clear hd
    by_cases hlt : k < s.size
    · have hlt' : (k : Int) < (s.size : Int) := by omega
      by_cases c1 : s[k].toNat < 97
      · have c1' : (s[k].toNat : Int) < 97 := by omega
        go_wp2
        go_ret
        exact ⟨rfl, hb2⟩
      have c1' : ¬ (s[k].toNat : Int) < 97 := by omega
      by_cases c2 : 122 < s[k].toNat
      · have c2' : 122 < (s[k].toNat : Int) := by omega
        go_wp2
        go_ret
        exact ⟨rfl, hb2⟩
      have c2' : ¬ 122 < (s[k].toNat : Int) := by omega
      have hmo : Hid (Pm.letters (s.data.toList.take (k + 1)) = true) := Lib.hid (letters_more s.data.toList k (by rw [← Lib.size_eq]; exact hlt) HD.out (Nat.le_of_not_lt c1) (Nat.le_of_not_lt c2))
      go_wp2
      go_round
      case rel => exact ⟨k + 1, by omega, by go_num, hmo.out⟩
      case measure => simp [intOf]; omega
    · have hke : k = s.size := by omega
      subst hke
      have hlw : Hid (Pm.letters s.data.toList = true) := Lib.hid (by have h := HD.out; rw [Lib.size_eq s, List.take_length] at h; exact h)
      have R2 := Lib.hid (R1.out hlw.out)
      clear HD R1 hlw
      go_wp2_with (first
        | (have _x := hb3; go_at_call 15; have hq := W2.out (some ⟨b, o + T.length * 3, none⟩) 1 (c - T.length) w3 (HT.out.below hb3) (E2.out _ hb3) rfl; with_reducible refine hq.mono ?_; clear hq; rintro e w4 ⟨rfl, hb⟩; have hb4 := hb3.trans (hb.mono hb3.size); clear hb)
        | (go_at_call 15; have hq := W1.out (some ⟨b, o, none⟩) T.length c w2 (HT.out.below hb2) (E1.out _ hb2) rfl; refine hq.mono ?_; clear hq; rintro e w3 ⟨rfl, hb⟩; have hb3 := hb2.trans (hb.mono hb2.size); clear hb))
      have HB4 : Hid (Below w.heap.size w w4.drew) := Lib.hid (hb4.trans (below_drewN (Below.refl _ _) 1))
      have q1 := (HE.out.up hb4).c0 T.length rfl
      have q2 := (HE.out.up hb4).c1 T.length rfl
      have A4 := Lib.hid (AS.out w4.drew (HT.out.below HB4.out))
      have g1 : ¬ 9223372036854775807 < 5 + x.sender.length := by omega
      have g2 : ¬ 9223372036854775807 < 5 + x.sender.length + 1 := by omega
      have g3 : ¬ 9223372036854775807 < 5 + x.sender.length + 1 + Asc.length := by omega
      have g4 : ¬ 9223372036854775807 < 5 + x.sender.length + 1 + Asc.length + 1 := by omega
      clear W1 W2 E1 E2 AS hsm hfew hcl
      go_region_held3 (fun w' => w'.cell? ⟨b, o + T.length * 3, none⟩ = some (.string ⟨x.sender.toArray⟩) ∧ w'.cell? ⟨b, o + T.length * 3 + 1, none⟩ = some (.int .i64 x.date))
        (first | exact ⟨cell_up hb5 q1, cell_up hb5 q2⟩ | exact ⟨q1, q2⟩)
        (first | (go_at_call 18; refine (A4.out).mono ?_; rintro e w5 ⟨rfl, hb⟩; have hb5 := hb))
      rw [Y2.out]
      have HB5 : Hid (Below w.heap.size w w5) := Lib.hid (HB4.out.trans (hb5.mono HB4.out.size))
      have q3 := cell_up hb5 q1
      clear q1 q2 hb5 hb A4 g1 g2 g3 g4 Y2
      go_wp2
      have HB6 : Hid (Below w.heap.size w w5.drew) := Lib.hid (HB5.out.trans (below_drewN (Below.refl _ _) 1))
      have A6 := Lib.hid (W3.out (some ⟨b, a2, none⟩) (T.length + (D.length + 1) - (T.length + 1)) (c - (T.length + 1)) w5.drew (HT.out.below HB6.out) (E3.out _ HB6.out) (by omega))
      have g1 : ¬ 9223372036854775807 < Bf.length + 5 := by omega
      have g2 : ¬ 9223372036854775807 < Bf.length + 5 + x.sender.length := by omega
      have g3 : ¬ 9223372036854775807 < Bf.length + 5 + x.sender.length + 1 := by omega
      have g4 : ¬ 9223372036854775807 < Bf.length + 5 + x.sender.length + 1 + s.size := by omega
      have g5 : ¬ 9223372036854775807 < Bf.length + 5 + x.sender.length + 1 + s.size + 1 := by omega
      have g6 : ¬ 9223372036854775807 < Bf.length + 5 + x.sender.length + 1 + s.size + 1 + Rs.length := by omega
      have g7 : ¬ 9223372036854775807 < Bf.length + 5 + x.sender.length + 1 + s.size + 1 + Rs.length + Bd.length := by omega
      have f1 : (0 : Int) ≤ (Ls.length : Int) := by omega
      have f2 : (Ls.length : Int) ≤ (Ls.length : Int) + (Rs.length : Int) := by omega
      clear W3 E3
      go_region_held3 (fun w' => w'.cell? ⟨b, o + T.length * 3, none⟩ = some (.string ⟨x.sender.toArray⟩))
        (first | exact cell_up hb6 q3 | exact q3)
        (first | (go_at_call 15; refine (A6.out).mono ?_; rintro e w6 ⟨rfl, hb⟩; have hb6 := hb))
      rw [Y1.out]
      have HB7 : Hid (Below w.heap.size w w6) := Lib.hid (HB6.out.trans (hb6.mono HB6.out.size))
      clear Y1 Y3 Y4 q3 hb6 hb A6 g1 g2 g3 g4 g5 g6 g7
      generalize (Bf ++ (Pm.sepLine x.sender s.data.toList ++ (Rs ++ Bd))) = Sf at *
      have HO := Lib.hid (own_empty w6)
      have B0 : Hid (Below w6.heap.size w6 (w6.alloc (.cells #[] 30))) := Lib.hid ((Below.refl _ _).alloc (Nat.le_refl _) _)
      go_upto_region 16 with (at_builtin; refine wpList_append_ents (by rfl) (.tmp 119) (.tmp 120) rfl w6.heap.size _ 0 [] rfl HO.out (some ⟨b, o, none⟩) c (T ++ x :: D) (by rw [HL.out]; rfl) (((HE.out.up HB7.out).s (by rw [HL.out]; omega)).up B0.out) (fun h => by cases h) (by rw [HL.out]; omega) B0.out.size ?_; intro v8 w8 ho hg; simp only [Nat.zero_add, List.nil_append] at ho; obtain ⟨A8, c8, rfl⟩ := own_form ho; obtain ⟨g8, rfl⟩ := row_some ho (by rw [HL.out]; omega); have HO8 := Lib.hid ho; have B8 := Lib.hid (B0.out.grown hg B0.out.size (RS.row_ge HO.out)); clear ho hg)
      have hst := HO8.out.stored (T.length * 3 + 1) (.int .i64 0)
      rw [entCells_set] at hst
      have fz := HO8.out.frozenAt (T.length * 3 + 1)
      have oc : w8.cell? ⟨g8, T.length * 3 + 1, none⟩ = some (.int .i64 x.date) := by
        obtain ⟨g, e, hat8, _⟩ := own_cells HO8.out (by rw [HL.out]; omega)
        injection e with e; injection e with e1 e2
        subst e1
        have := hat8.c1 T.length rfl
        simpa using this
      have HB9 : Hid (Below w6.heap.size w6 (w8.setCell ⟨g8, T.length * 3 + 1, none⟩ (.int .i64 0))) := Lib.hid (B8.out.grown hst.2 B8.out.size (RS.row_ge HO8.out))
      have HW9 : Hid (Below w.heap.size w (w8.setCell ⟨g8, T.length * 3 + 1, none⟩ (.int .i64 0))) := Lib.hid (HB7.out.trans (HB9.out.mono HB7.out.size))
      have hl2 : (T ++ x :: D).length = (T ++ (⟨x.sender, 0, x.raw⟩ : Pm.Ent) :: D).length := by simp
      have HS9 : Hid (EntS (w8.setCell ⟨g8, T.length * 3 + 1, none⟩ (.int .i64 0)) (some ⟨g8, 0, none⟩) (T ++ ⟨x.sender, 0, x.raw⟩ :: D)) := Lib.hid (by
        have h := hst.1
        rw [hl2] at h
        exact entS_of_own h)
      clear hst HO8 HO B0 B8 HB9
      have hL2 := hl2.symm.trans HL.out
      go_wp2_with (first
        | (go_at_call 9; have hq := R2.out _ (HT.out.below HW9.out); refine hq.mono ?_; clear hq; rintro e w10 ⟨A3, A4, c3, c4, rfl, h1, h2, hb⟩; obtain ⟨gd, rfl⟩ := row_some h2 Nat.one_pos; have HB3 := Lib.hid (entS_of_own h1); have HS10 := Lib.hid (HS9.out.up hb); have d0 : w10.cell? ⟨gd, 0, none⟩ = some (.int .i64 2) := (h2.cellAt 0 (show 0 < 1 * 2 by decide)).trans rfl; have d1 : w10.cell? ⟨gd, 1, none⟩ = some (.int .i64 (Bf.length : Int)) := (h2.cellAt 1 (show 1 < 1 * 2 by decide)).trans rfl; have hb10 := HW9.out.trans (hb.mono HW9.out.size); clear hb h1 h2)
        | (go_at_call 13; have hq := same_lists2 A3 (some ⟨g8, 0, none⟩) c3 c8 (T.length + (D.length + 1)) (T.length + (D.length + 1)) _ _ w10 HB3.out HS10.out rfl hL2.symm hL2.symm; unfold BoolPost at hq; refine hq.mono ?_; clear hq; rintro e w11 ⟨rfl, hb⟩; have d2 := cell_up hb d0; have d3 := cell_up hb d1; have hb11 := hb10.trans (hb.mono hb10.size); clear hb))
      go_ret
      exact ⟨rfl, hb11⟩
end Go.Proofs.YtbhhaehdoiaihaaGreatDoor
