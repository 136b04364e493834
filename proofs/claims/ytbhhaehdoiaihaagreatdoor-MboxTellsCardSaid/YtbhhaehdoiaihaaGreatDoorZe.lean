/- The walk of missivelaw16.MboxBack. -/
import Derived.Test.YtbhhaehdoiaihaaGreatDoorZf
import Derived.Test.YtbhhaehdoiaihaaGreatDoorQb
namespace Go.Proofs.YtbhhaehdoiaihaaGreatDoor
open Go.RowKit

theorem fewB_parts (es : List Pm.Ent) (h : fewB es = true) : es.length ≤ 8 ∧ ∀ x ∈ es, x.sender.length ≤ 210 ∧ x.raw.length ≤ 600 := by
  unfold fewB at h
  simp only [Bool.and_eq_true, decide_eq_true_eq, List.all_eq_true] at h
  refine ⟨h.2, fun x hx => ?_⟩
  have := h.1 x hx
  unfold okFew at this
  simpa using this
theorem read_count (s : Pm.Bs) : (Pm.read s).1.length ≤ s.length := by
  have h := (Pm.read_facts s).wt
  have h5 : ∀ es : List Pm.Ent, es.length ≤ Pm.wt es := by
    intro es; induction es with
    | nil => simp
    | cons e es ih => unfold Pm.wt at ih ⊢; simp only [List.length_cons, List.map_cons, List.sum_cons]; omega
  exact Nat.le_trans (h5 _) h
theorem same_lists2 (A B : Option Addr) (c d n m : Nat) (es fs : List Pm.Ent) (w : World) (hE : EntS w A es) (hF : EntS w B fs) (he : es = fs) (hn : n = es.length) (hm : m = fs.length) :
    Calls Tryz.prog 13 #[.slice A n c, .slice B m d] w (BoolPost true w) := by
  subst he hn hm; exact same_lists A B c d es w hE hF
theorem hurt_read (s : Pm.Bs) (Y : List Pm.Dam) (n : Int) (h : (Pm.read s).2 = Y.map fun d => ⟨d.kind, d.at_ + n⟩) (hs : s.length ≤ 1000000) :
    ∀ (k : Nat) (h1 : k < (Pm.read s).2.length) (h2 : k < Y.length), (Pm.read s).2[k].kind = Y[k].kind ∧ (Pm.read s).2[k].at_ = Y[k].at_ + n ∧ -9223372036854775808 ≤ (Pm.read s).2[k].at_ ∧ (Pm.read s).2[k].at_ ≤ 9223372036854775807 := by
  intro k h1 h2
  have hb := (Pm.read_facts s).kinds _ (List.getElem_mem h1)
  have e : (Pm.read s).2[k] = ⟨Y[k].kind, Y[k].at_ + n⟩ := by simp [h]
  exact ⟨by rw [e], by rw [e], by omega, by omega⟩
/-- What the laws' heads ask of their lists. -/
structure Good (es : List Pm.Ent) : Prop where
  n : es.length ≤ 8
  size : ∀ x ∈ es, x.sender.length ≤ 210 ∧ x.raw.length ≤ 600
  clean : ∀ x ∈ es, Pm.CleanE x
theorem good_of (es : List Pm.Ent) (h : fewB es = true) (hc : es.all Pm.clean = true) : Good es :=
  ⟨(fewB_parts es h).1, (fewB_parts es h).2, fun x hx => Pm.cleanE_of x (List.all_eq_true.1 hc x hx)⟩
theorem Good.write_len {es : List Pm.Ent} (h : Good es) : (Pm.write es).length ≤ 12000 := by
  have := Go.Proofs.YtbhhaehdoiaihaaGreatDoor.write_len es 1443 (fun x hx => by have := h.size x hx; omega)
  have h2 := h.n
  have : es.length * 1443 ≤ 8 * 1443 := Nat.mul_le_mul_right _ h2
  omega

set_option maxRecDepth 100000 in
set_option maxHeartbeats 2000000 in
theorem mboxBack_any (A : Option Addr) (c : Nat) (es : List Pm.Ent) (more : ByteArray) (hmax : more.size ≤ 9223372036854775807) (w : World) (ht : Tab w) (hE : EntS w A es) (hA : A = none → c = 0)
    (hsz : ∀ x ∈ es, x.sender.length ≤ 9223372036854775807 ∧ x.raw.length ≤ 9223372036854775807) :
    Calls Tryz.prog 4 #[.slice A es.length c, .string more] w (BoolPost true w) := by
  have hsm := Lib.hid (small_any w ht)
  have hfew := Lib.hid (fun w hE => few_any A c es w hE)
  have HE := Lib.hid hE
  have HT := Lib.hid ht
  clear hE ht
  unfold BoolPost
  cases hf : fewB es with
  | false =>
    rw [hf] at hfew
    go_enter Tryz.func4, Tryz.ntmps4
    go_wp2_with (first
      | (go_at_call 7; refine (hsm.out).mono ?_; rintro e w1 ⟨rfl, hb1⟩)
      | (go_at_call 8; refine (hfew.out _ (HE.out.up hb1)).mono ?_; rintro e w' ⟨rfl, rfl⟩))
    go_ret
    exact ⟨rfl, hb1⟩
  | true =>
    rw [hf] at hfew
    obtain ⟨f1, f2⟩ := fewB_parts es hf
    have hcl := Lib.hid (fun w ht hE => cleanAll_any A c es w ht hE (fun x hx => by have := f2 x hx; omega))
    unfold BoolPost at hcl
    cases hc : es.all Pm.clean with
    | false =>
      rw [hc] at hcl
      clear hf hc f1 f2 hsz
      go_enter Tryz.func4, Tryz.ntmps4
      go_wp2_with (first
        | (go_at_call 7; refine (hsm.out).mono ?_; rintro e w1 ⟨rfl, hb1⟩)
        | (go_at_call 8; refine (hfew.out _ (HE.out.up hb1)).mono ?_; rintro e w' ⟨rfl, rfl⟩)
        | (go_at_call 17; refine (hcl.out _ (HT.out.below hb1) (HE.out.up hb1)).mono ?_; rintro e w2 ⟨rfl, hb⟩; have hb2 := hb1.trans (hb.mono hb1.size); clear hb))
      go_ret
      exact ⟨rfl, hb2⟩
    | true =>
      rw [hc] at hcl
      have HG := Lib.hid (good_of es hf hc)
      clear hf hc f1 f2 hsz
      by_cases hm : 2000 < more.size
      · have hm' : 2000 < (more.size : Int) := by omega
        go_enter Tryz.func4, Tryz.ntmps4
        go_wp2_with (first
          | (go_at_call 7; refine (hsm.out).mono ?_; rintro e w1 ⟨rfl, hb1⟩)
          | (go_at_call 8; refine (hfew.out _ (HE.out.up hb1)).mono ?_; rintro e w' ⟨rfl, rfl⟩)
          | (go_at_call 17; refine (hcl.out _ (HT.out.below hb1) (HE.out.up hb1)).mono ?_; rintro e w2 ⟨rfl, hb⟩; have hb2 := hb1.trans (hb.mono hb1.size); clear hb))
        go_ret
        exact ⟨rfl, hb2⟩
      · have hm' : ¬ 2000 < (more.size : Int) := by omega
        have hwl := HG.out.write_len
        have hwr := Lib.hid (fun w ht hE => write_any A c es w ht hE (by have := HG.out.n; omega) (fun x hx => by have := HG.out.size x hx; omega))
        unfold StrPost at hwr
        have R1 : Hid (∀ w, Tab w → Calls Tryz.prog 9 #[.string ⟨(Pm.write es).toArray⟩] w fun e w' => ∃ (Ae Ad : Option Addr) (ce cd : Nat), e = .returned (.tuple #[.slice Ae es.length ce, .slice Ad 0 cd]) ∧
            w'.ownsRow w.heap.size 30 3 (.slice Ae es.length ce) es.length (entCells es) ∧ Below w.heap.size w w') :=
          Lib.hid fun w ht => (read_at ⟨(Pm.write es).toArray⟩ es [] (by rw [Lib.size_eq]; exact Nat.le_trans hwl (by omega)) (Pm.read_write es HG.out.clean) w ht).mono fun e w' ⟨Ae, Ad, ce, cd, h1, h2, _, h4⟩ => ⟨Ae, Ad, ce, cd, h1, h2, h4⟩
        have hmr := Pm.read_more es more.data.toList HG.out.clean
        have hml : more.data.toList.length = more.size := (Lib.size_eq more).symm
        have hmd : (⟨more.data.toList.toArray⟩ : ByteArray) = more := Lib.mk_data more
        generalize more.data.toList = M at *
        subst hmd
        have hM : M.length ≤ 2000 := by omega
        have hM' : ¬ 2000 < (M.length : Int) := by omega
        have R2 := Lib.hid (fun w ht => read_at ⟨(Pm.write es ++ (Pm.fromB ++ M)).toArray⟩ _ _ (by rw [Lib.size_eq]; simp [Pm.fromB]; omega) (Prod.eta _).symm w ht)
        have R3 := Lib.hid (fun w ht => read_at ⟨(Pm.fromB ++ M).toArray⟩ _ _ (by rw [Lib.size_eq]; simp [Pm.fromB]; omega) (Prod.eta _).symm w ht)
        have d1 : ¬ 9223372036854775807 < (Pm.write es).length + 5 := by omega
        have d2 : ¬ 9223372036854775807 < (Pm.write es).length + 5 + M.length := by omega
        have d3 : ¬ 9223372036854775807 < 5 + M.length := by omega
        have HMR := Lib.hid hmr
        have hrl : (Pm.read (Pm.fromB ++ M)).1.length ≤ 2005 := Nat.le_trans (read_count _) (by simp [Pm.fromB]; omega)
        have HRL := Lib.hid hrl
        have HWL : Hid ((Pm.write es ++ (Pm.fromB ++ M)).length ≤ 1000000) := Lib.hid (by simp [Pm.fromB]; omega)
        clear hrl
        have E2 : (⟨(Pm.write es).toArray⟩ ++ ⟨#[70, 114, 111, 109, 32]⟩ ++ ⟨M.toArray⟩ : ByteArray) = ⟨(Pm.write es ++ (Pm.fromB ++ M)).toArray⟩ := by apply ByteArray.ext; simp [Pm.fromB]
        have E3 : (⟨#[70, 114, 111, 109, 32]⟩ ++ ⟨M.toArray⟩ : ByteArray) = ⟨(Pm.fromB ++ M).toArray⟩ := by apply ByteArray.ext; simp [Pm.fromB]
        have D1 := Lib.hid d1
        have D2 := Lib.hid d2
        have D3 := Lib.hid d3
        clear hml hm hm' hmax hmr d1 d2 d3 hM hwl
        go_enter Tryz.func4, Tryz.ntmps4
        go_upto_region 10 with (first
          | (go_at_call 7; refine (hsm.out).mono ?_; rintro e w1 ⟨rfl, hb1⟩)
          | (go_at_call 8; refine (hfew.out _ (HE.out.up hb1)).mono ?_; rintro e w' ⟨rfl, rfl⟩)
          | (go_at_call 17; refine (hcl.out _ (HT.out.below hb1) (HE.out.up hb1)).mono ?_; rintro e w2 ⟨rfl, hb⟩; have hb2 := hb1.trans (hb.mono hb1.size); clear hb)
          | (go_at_call 15; refine (hwr.out _ (HT.out.below hb2) (HE.out.up hb2)).mono ?_; rintro e w3 ⟨rfl, hb⟩; have hb3 := hb2.trans (hb.mono hb2.size); clear hb)
          | (have _x := hb6; go_at_call 9; have hq := R3.out w6 (HT.out.below hb6); refine hq.mono ?_; clear hq; rintro e w7 ⟨A5, A6, c5, c6, rfl, h1, h2, hb⟩; have hb7 := hb6.trans (hb.mono hb6.size); have HC := Lib.hid (entS_of_own h1); have HCn := Lib.hid (own_cap h1); have HDC := Lib.hid (damS_of_own h2); have H67 := Lib.hid hb; clear hb h1 h2)
          | (have _x := hb5; go_at_call 9; have hq := R2.out w5 (HT.out.below hb5); refine hq.mono ?_; clear hq; rintro e w6 ⟨A3, A4, c3, c4, rfl, h1, h2, hb⟩; have hb6 := hb5.trans (hb.mono hb5.size); have HBB := Lib.hid (entS_of_own h1); have HDB := Lib.hid (damS_of_own h2); clear hb h1 h2)
          | (go_at_call 9; with_reducible refine (R1.out _ (HT.out.below hb3)).mono ?_; rintro e w4 ⟨A1, A2, c1, c2, rfl, h1, hb⟩; have hb4 := hb3.trans (hb.mono hb3.size); have HA := Lib.hid (entS_of_own h1); clear hb h1)
          | (go_at_call 13; have hq := same_lists A1 A c1 c es w4 HA.out (HE.out.up hb4); unfold BoolPost at hq; refine hq.mono ?_; clear hq; rintro e w5 ⟨rfl, hb⟩; have hb5 := hb4.trans (hb.mono hb4.size); have d1 := D1.out; have d2 := D2.out; have d3 := D3.out; clear hb))
        clear R1 R2 R3 D1 D2 D3 d1 d2 d3 E2 E3 hcl hfew hwr hsm hM'
        have HO := Lib.hid (own_empty w7)
        have B0 : Hid (Below w7.heap.size w7 (w7.alloc (.cells #[] 30))) := Lib.hid ((Below.refl _ _).alloc (Nat.le_refl _) _)
        have hn1 := HG.out.n
        have HCl := HC.out.1
        go_wp2_with (first
          | (have _x := HO9; at_builtin; refine wpList_append_ents (by rfl) (.tmp 63) (.tmp 64) rfl w7.heap.size _ _ _ rfl HO9.out A5 c5 (Pm.read (Pm.fromB ++ M)).1 rfl (HC.out.up B8.out) HCn.out (by have := HRL.out; omega) B8.out.size ?_; intro v9 w9 ho hg; obtain ⟨A9, c9, rfl⟩ := own_form ho; have HO10 := Lib.hid ho; have B9 := Lib.hid (B8.out.grown hg B8.out.size (RS.row_ge HO9.out)); clear ho hg)
          | (at_builtin; refine wpList_append_ents (by rfl) (.tmp 61) (.tmp 62) rfl w7.heap.size _ 0 [] rfl HO.out A c es rfl (HE.out.up (hb7.trans (B0.out.mono hb7.size))) hA (by omega) B0.out.size ?_; intro v8 w8 ho hg; simp only [Nat.zero_add, List.nil_append] at ho; obtain ⟨A8, c8, rfl⟩ := own_form ho; have HO9 := Lib.hid ho; have B8 := Lib.hid (B0.out.grown hg B0.out.size (RS.row_ge HO.out)); clear ho hg)
          | (go_at_call 13; have hq := same_lists2 A3 A9 c3 c9 _ (es.length + (Pm.read (Pm.fromB ++ M)).fst.length) _ (es ++ (Pm.read (Pm.fromB ++ M)).fst) w9 ((HBB.out.up H67.out).up B9.out) (by have h := HO10.out; rw [← entCells_app, ← List.length_append] at h; exact entS_of_own h) HMR.out.1 rfl (by rw [List.length_append]); unfold BoolPost at hq; refine hq.mono ?_; clear hq; rintro e w10 ⟨rfl, hb⟩; have B10 := Lib.hid (B9.out.trans (hb.mono B9.out.size)); clear hb)
          | (go_at_call 14; have hq := hurt_lists A4 A6 c4 c6 _ _ ((Pm.write es).length : Int) w10 ((HDB.out.up H67.out).up B10.out) (HDC.out.up B10.out) (by rw [HMR.out.2, List.length_map]) (hurt_read _ _ _ HMR.out.2 HWL.out); unfold BoolPost at hq; refine hq.mono ?_; clear hq; rintro e w11 ⟨rfl, hb⟩; have B11 := Lib.hid (B10.out.trans (hb.mono B10.out.size)); clear hb))
        go_ret
        exact ⟨rfl, hb7.trans (B11.out.mono hb7.size)⟩
end Go.Proofs.YtbhhaehdoiaihaaGreatDoor
