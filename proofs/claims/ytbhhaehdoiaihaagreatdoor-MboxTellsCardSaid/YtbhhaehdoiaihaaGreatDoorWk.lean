/- The walk of mbox.Read. Printed by genread.py. -/
import Derived.Test.YtbhhaehdoiaihaaGreatDoorWj
namespace Go.Proofs.YtbhhaehdoiaihaaGreatDoor
open Go.RowKit

theorem finish_len (g n cap B B2 : Nat) (xs : List Value) (v : Value) (ls : List Pm.Bs) (w : World) (hn : 0 < n)
    (hE : w.ownsRow B 30 3 (.slice (some ⟨g, 0, none⟩) n cap) n xs)
    (hL : w.ownsRow B2 9 1 v ls.length (ls.map strV))
    (hk : n ≤ 4294967280) (hj : ls.length ≤ 4294967280) (hne : ∀ l ∈ ls, l ≠ []) (hflat : ls.flatten.length ≤ 4294967280) :
    Calls Tryz.prog 23 #[.slice (some ⟨g, 0, none⟩) n cap, v] w (FinPost g (n - 1) (Pm.rawOf ls) w) := by
  obtain ⟨k, rfl⟩ : ∃ k, n = k + 1 := ⟨n - 1, by omega⟩
  exact finish_any g k cap B B2 xs v ls w hE hL (by omega) hj hne hflat
theorem RS.setLast' {w wr : World} {es : List Pm.Ent} {ds : List Pm.Dam} {ls : List Pm.Bs} {vd vl : Value} {g n cap : Nat} (h : RS w es ds ls (.slice (some ⟨g, 0, none⟩) n cap) vd vl wr) (hk : es.length = n) (hn : 0 < n) (r : Pm.Bs) :
    RS w (Pm.setRaw es r) ds ls (.slice (some ⟨g, 0, none⟩) n cap) vd vl (wr.setCell ⟨g, (n - 1) * 3 + 2, none⟩ (.string ⟨r.toArray⟩)) := by
  obtain ⟨k, rfl⟩ : ∃ k, n = k + 1 := ⟨n - 1, by omega⟩
  exact h.setLast hk r
theorem bare_content (l : Pm.Bs) (h : Pm.bare l = true) : 5 ≤ (Pm.content l).length := by
  unfold Pm.bare Lib.hasPrefix Pm.fromB at h
  rw [List.isPrefixOf_iff_prefix] at h
  obtain ⟨r, rfl⟩ := h
  unfold Pm.content
  have hr : ∀ (r : Pm.Bs) (x : UInt8), x ≠ 32 → 5 ≤ (Lib.trimSuffix ([70, 114, 111, 109, 32] ++ r) [x]).length := by
    intro r x hx
    unfold Lib.trimSuffix
    split
    · next hs =>
      unfold Lib.hasSuffix at hs
      rw [List.isSuffixOf_iff_suffix] at hs
      rcases List.eq_nil_or_concat r with rfl | ⟨L, y, rfl⟩
      · obtain ⟨t, ht⟩ := hs
        have := congrArg List.getLast? ht
        simp at this
        exact absurd this hx
      · simp
    · simp
  split
  · have h10 : ∃ r', Lib.trimSuffix ([70, 114, 111, 109, 32] ++ r) [10] = [70, 114, 111, 109, 32] ++ r' := by
      have h5 := hr r 10 (by decide)
      unfold Lib.trimSuffix at h5 ⊢
      by_cases hs : Lib.hasSuffix ([70, 114, 111, 109, 32] ++ r) [10] = true
      · rw [if_pos hs]
        generalize hn : (([70, 114, 111, 109, 32] ++ r).length - [(10 : UInt8)].length) = n
        have h5n : 5 ≤ n := by
          rw [if_pos hs] at h5
          rw [hn] at h5
          have := List.length_take_le n ([70, 114, 111, 109, 32] ++ r)
          omega
        refine ⟨r.take (n - 5), ?_⟩
        rw [List.take_append, List.take_of_length_le (by simpa using h5n)]
        rfl
      · rw [if_neg hs]; exact ⟨r, rfl⟩
    obtain ⟨r', e⟩ := h10
    rw [e]
    exact hr r' 13 (by decide)
  · simp

def ReadPost (l : Pm.Bs) (w : World) (e : Ending) (w' : World) : Prop :=
  ∃ (Ae Ad : Option Addr) (ce cd : Nat), e = .returned (.tuple #[.slice Ae (Pm.read l).1.length ce, .slice Ad (Pm.read l).2.length cd]) ∧
    w'.ownsRow w.heap.size 30 3 (.slice Ae (Pm.read l).1.length ce) (Pm.read l).1.length (entCells (Pm.read l).1) ∧
    w'.ownsRow w.heap.size 38 2 (.slice Ad (Pm.read l).2.length cd) (Pm.read l).2.length (damCells (Pm.read l).2) ∧ Below w.heap.size w w'

theorem ext_drop (s : ByteArray) (k : Nat) : Value.string (s.extract k s.size) = .string ⟨(s.data.toList.drop k).toArray⟩ := by
  rw [Lib.extract_eq, Lib.size_eq, List.take_of_length_le (by simp)]

theorem setRaw_nil (r : Pm.Bs) : Pm.setRaw [] r = [] := rfl
theorem step_TT (es : List Pm.Ent) (ds : List Pm.Dam) (ls : List Pm.Bs) (k : Int) (f : Pm.Bs) (hb : Pm.bare f = true) (hr : (Pm.sepOf f).2.2 = true) :
    Pm.step ⟨es, ds, ls, true, k⟩ f = ⟨Pm.setRaw es (Pm.rawOf ls) ++ [⟨(Pm.sepOf f).1, (Pm.sepOf f).2.1, []⟩], ds, [], Pm.blank f, k + f.length⟩ := by simp [Pm.step, Pm.sep?, hb, hr]
theorem step_FT (es : List Pm.Ent) (ds : List Pm.Dam) (ls : List Pm.Bs) (k : Int) (f : Pm.Bs) (hb : Pm.bare f = true) (hr : (Pm.sepOf f).2.2 = false) :
    Pm.step ⟨es, ds, ls, true, k⟩ f = ⟨Pm.setRaw es (Pm.rawOf ls) ++ [⟨(Pm.sepOf f).1, (Pm.sepOf f).2.1, []⟩], ds ++ [⟨2, k⟩], [], Pm.blank f, k + f.length⟩ := by simp [Pm.step, Pm.sep?, hb, hr]
theorem step_TF (es : List Pm.Ent) (ds : List Pm.Dam) (ls : List Pm.Bs) (k : Int) (f : Pm.Bs) (hb : Pm.bare f = true) (hr : (Pm.sepOf f).2.2 = true) :
    Pm.step ⟨es, ds, ls, false, k⟩ f = ⟨Pm.setRaw es (Pm.rawOf ls) ++ [⟨(Pm.sepOf f).1, (Pm.sepOf f).2.1, []⟩], ds ++ [⟨3, k⟩], [], Pm.blank f, k + f.length⟩ := by simp [Pm.step, Pm.sep?, hb, hr]
theorem step_Q (es : List Pm.Ent) (ds : List Pm.Dam) (ls : List Pm.Bs) (k : Int) (f : Pm.Bs) (hb : Pm.bare f = true) (hr : (Pm.sepOf f).2.2 = false) :
    Pm.step ⟨es, ds, ls, false, k⟩ f = ⟨es, ds ++ [⟨5, k⟩], ls ++ [f], Pm.blank f, k + f.length⟩ := by simp [Pm.step, Pm.sep?, hb, hr]
theorem step_0 (es : List Pm.Ent) (ds : List Pm.Dam) (ls : List Pm.Bs) (af : Bool) (k : Int) (f : Pm.Bs) (hb : Pm.bare f = false) (hk : k = 0) :
    Pm.step ⟨es, ds, ls, af, k⟩ f = ⟨es, ds ++ [⟨1, k⟩], ls ++ [f], Pm.blank f, k + f.length⟩ := by simp [Pm.step, hb, hk]
theorem step_P (es : List Pm.Ent) (ds : List Pm.Dam) (ls : List Pm.Bs) (af : Bool) (k : Int) (f : Pm.Bs) (hb : Pm.bare f = false) (hk : k ≠ 0) :
    Pm.step ⟨es, ds, ls, af, k⟩ f = ⟨es, ds, ls ++ [f], Pm.blank f, k + f.length⟩ := by simp [Pm.step, hb, hk]

theorem cells_new' (w : World) (b : Nat) (hb : b = w.heap.size) (cs : List Value) (t : TypeId) : ∀ j u, cs[j]? = some u → (w.alloc (.cells cs.toArray t)).cell? ((⟨b, 0, none⟩ : Addr).add j) = some u := by
  subst hb; exact cells_new w cs t
theorem endDam_nil (n : Int) : Pm.endDam [] n = [] := rfl
theorem endDam_last (es : List Pm.Ent) (r : Pm.Bs) (n : Int) (h : 0 < es.length) : Pm.endDam (Pm.setRaw es r) n = if Pm.hasBlank r then [] else [⟨4, n⟩] := by
  rcases List.eq_nil_or_concat es with rfl | ⟨L, x, rfl⟩
  · simp at h
  · rw [List.concat_eq_append, setRaw_snoc]
    unfold Pm.endDam
    rw [List.getLast?_concat]
theorem rawOf_le (ls : List Pm.Bs) : (Pm.rawOf ls).length ≤ ls.flatten.length := by
  unfold Pm.rawOf
  refine Nat.le_trans (flat_le _) ?_
  unfold Pm.dropBlank
  split
  · exact Nat.le_refl _
  · split
    · rw [List.dropLast_eq_take]; exact take_flatten_le _ _
    · exact Nat.le_refl _
theorem read_eq (l : Pm.Bs) (es : List Pm.Ent) (ds : List Pm.Dam) (ls : List Pm.Bs) (af : Bool) (k : Int) (h : Pm.run Pm.St.start (Pm.lines l) = ⟨es, ds, ls, af, k⟩) :
    Pm.read l = (Pm.setRaw es (Pm.rawOf ls), ds ++ Pm.endDam (Pm.setRaw es (Pm.rawOf ls)) l.length) := by
  unfold Pm.read; dsimp only; rw [h]; rfl

def ReadInv (s : ByteArray) (w : World) (v4 v5 v6 v7 v8 : Value) (wr : World) : Prop :=
  ∃ (k : Nat) (es : List Pm.Ent) (ds : List Pm.Dam) (ls : List Pm.Bs) (af : Bool) (Ae Ad Al : Option Addr) (ce cd cl : Nat),
    v4 = .slice Ae es.length ce ∧ v5 = .slice Ad ds.length cd ∧ v6 = .slice Al ls.length cl ∧ v7 = .bool af ∧ v8 = .int .i64 k ∧ k ≤ s.size ∧
    RS w es ds ls (.slice Ae es.length ce) (.slice Ad ds.length cd) (.slice Al ls.length cl) wr ∧
    Pm.run ⟨es, ds, ls, af, k⟩ (Pm.lines (s.data.toList.drop k)) = Pm.run Pm.St.start (Pm.lines s.data.toList) ∧
    es.length ≤ k ∧ ds.length ≤ 2 * k ∧ ls.length ≤ k ∧ (∀ x ∈ ls, x ≠ []) ∧ ls.flatten.length ≤ k

/-- The state after one more line. -/
theorem run_next (s : ByteArray) (k : Nat) (st st' : Pm.St) (f : Pm.Bs) (h : Pm.lines (s.data.toList.drop k) = f :: Pm.lines (s.data.toList.drop (k + f.length)))
    (hr : Pm.run st (Pm.lines (s.data.toList.drop k)) = Pm.run Pm.St.start (Pm.lines s.data.toList)) (hs : Pm.step st f = st') :
    Pm.run st' (Pm.lines (s.data.toList.drop (k + f.length))) = Pm.run Pm.St.start (Pm.lines s.data.toList) := by
  rw [← hr, h, ← hs]; rfl
theorem pos_add (k n : Nat) : (k : Int) + (n : Int) = ((k + n : Nat) : Int) := by omega

set_option maxHeartbeats 8000000 in
set_option maxRecDepth 100000 in
theorem read_any (s : ByteArray) (hs : s.size ≤ 1073741824) (w : World) (ht : Tab w) :
    Calls Tryz.prog 9 #[.string s] w (ReadPost s.data.toList w) := by
  obtain ⟨iE, hE, hE0, hE1, hE2⟩ := info_parts info_ent
  obtain ⟨iD, hD, hD0, hD1, hD2⟩ := info_parts info_dam
  obtain ⟨iS, hS, hS0, hS1, hS2⟩ := info_parts info_str
  have hsz := Lib.hid (Lib.size_eq s)
  have HT := Lib.hid ht
  clear ht
  go_enter Tryz.func9, Tryz.ntmps9
  go_wp2
  go_loopw [4, 5, 6, 7, 8] (fun v4 v5 v6 v7 v8 wr => ReadInv s w v4 v5 v6 v7 v8 wr) (fun _ _ _ _ v8 _ => s.size - (intOf v8).toNat)
  case atStart =>
    exact ⟨0, [], [], [], true, none, none, none, 0, 0, 0, rfl, rfl, rfl, rfl, rfl, by omega, ⟨World.ownsRow_nil _ _ _ _, World.ownsRow_nil _ _ _ _, World.ownsRow_nil _ _ _ _, Below.refl _ _⟩, rfl, by simp, by simp, by simp, by simp, by simp⟩
  case round =>
    obtain ⟨k, es, ds, ls, af, Ae, Ad, Al, ce, cd, cl, rfl, rfl, rfl, rfl, rfl, hk, hR, hrun, b1, b2, b3, hne, hfl⟩ := hrel
    have HR := Lib.hid hR
    have hrun := Lib.hid hrun
    have hne := Lib.hid hne
    have hfl := Lib.hid hfl
    have HTR := Lib.hid (HT.out.below hR.below)
    clear hR
    by_cases hlt : k < s.size
    · have hlt' : (k : Int) < (s.size : Int) := by omega
      have hdne : s.data.toList.drop k ≠ [] := by
        intro e; have := congrArg List.length e; rw [List.length_drop, ← hsz.out] at this; simp at this; omega
      have hfp := Pm.first_pos _ hdne
      have hfl1 := Pm.first_length (s.data.toList.drop k)
      rw [List.length_drop, ← hsz.out] at hfl1
      have hlines := Lib.hid (by have h := Pm.lines_eq _ hdne; rwa [List.drop_drop] at h)
      have hfirst : Hid (Calls Tryz.prog 20 #[.string ⟨(s.data.toList.drop k).toArray⟩] wr fun e w' => e = .returned (.string ⟨(Pm.first (s.data.toList.drop k)).toArray⟩) ∧ wr = w') :=
        first_any ⟨(s.data.toList.drop k).toArray⟩ (by rw [Lib.size_eq]; simp; omega) wr
      generalize Pm.first (s.data.toList.drop k) = f at *
      have hfs : (⟨f.toArray⟩ : ByteArray).size ≤ 4294967280 := by rw [Lib.size_eq]; simp; omega
      have hfne : Hid (f ≠ []) := by
        show f ≠ []
        intro e; subst e; simp at hfp
      have hbare : Hid (Calls Tryz.prog 21 #[.string ⟨f.toArray⟩, .string ⟨#[70, 114, 111, 109, 32]⟩] wr fun e w' => e = .returned (.bool (Pm.bare f)) ∧ wr = w') := bare_any ⟨f.toArray⟩ wr
      have hblank : Hid (∀ W, Calls Tryz.prog 24 #[.string ⟨f.toArray⟩] W fun e w' => e = .returned (.bool (Pm.blank f)) ∧ W = w') := fun W => blank_any ⟨f.toArray⟩ hfs W
      cases hB : Pm.bare f
      case false =>
        have HB := Lib.hid hB
        clear hB hdne hfs
        by_cases hk0 : k = 0
        · have HK0 : Hid ((k : Int) = 0) := by show (k : Int) = 0; omega
          have tk : ((k : Int) == 0) = true := by rw [beq_iff_eq]; omega
          have tk2 : (k == 0) = true := by rw [beq_iff_eq]; omega
          clear hk0
          have HST := Lib.hid (step_0 es ds ls af (k : Int) f HB.out HK0.out)
          go_wp2_with (first
            | (go_at_call 20; rw [ext_drop]; refine (hfirst.out).mono ?_; rintro e w' ⟨rfl, rfl⟩)
            | (go_at_call 21; refine (hbare.out).mono ?_; rintro e w' ⟨rfl, rfl⟩; rw [HB.out])
            | (at_builtin; refine wpList_append_own _ rfl (.tmp 34) (.tmp 37) 25 rfl w.heap.size 38 iD (.agg #[.int .i64 0, .int .i64 0]) 2 16 Tryz.underlying25 hD hD0 hD1 hD2 rfl (by decide) _ _ _ rfl (HR.out.dams.alloc _) ⟨_, 0, none⟩ 1 1 [.int .i64 1, .int .i64 (k : Int)] rfl rfl (cells_new' _ _ (by simp) [.int .i64 1, .int .i64 (k : Int)] _) (by simp [Value.oneCell']) (by simp only [maxLen]; omega) (by omega) (Nat.le_trans HR.out.below.size (by simp)) ?_; intro v1 w1 ho1 hg1 _; obtain ⟨A1, c1, rfl⟩ := own_form ho1; have HR2 := Lib.hid ((HR.out.alloc _).addDam ⟨1, (k : Int)⟩ ho1 hg1); clear ho1 hg1)
            | (at_builtin; refine wpList_append_own _ rfl (.tmp 39) (.tmp 41) 42 rfl w.heap.size 9 iS (.string .empty) 1 16 Tryz.underlying42 hS hS0 hS1 hS2 rfl (by decide) _ _ _ rfl (HR2.out.lns.alloc _) ⟨_, 0, none⟩ 1 1 [.string ⟨f.toArray⟩] rfl rfl (cells_new' _ _ (by simp) [.string ⟨f.toArray⟩] _) (by simp [Value.oneCell']) (by simp only [maxLen]; omega) (by omega) (Nat.le_trans HR2.out.below.size (by simp)) ?_; intro v2 w2 ho2 hg2 _; obtain ⟨A2, c2, rfl⟩ := own_form ho2; have HR3 := Lib.hid ((HR2.out.alloc _).addLine f ho2 hg2); clear ho2 hg2)
            | (go_at_call 24; refine (hblank.out _).mono ?_; rintro e w' ⟨rfl, rfl⟩))
          go_roundw
          case rel =>
            refine ⟨k + f.length, es, ds ++ [⟨1, (k : Int)⟩], ls ++ [f], Pm.blank f, Ae, A1, A2, ce, c1, c2, by first | (simp; done) | (simp [setRaw_nil]; done) | (simp [setRaw_length]; done), by simp, by simp, rfl, by rw [← pos_add], by omega, ?_, ?_, ?_, ?_, ?_, ?_, ?_⟩
            · first | simpa using HR3.out | simpa [setRaw_nil] using HR3.out | simpa [setRaw_length] using HR3.out
            · rw [← pos_add]; exact run_next s k _ _ f hlines.out hrun.out HST.out
            · first | omega | (simp; done) | (simp; omega) | (simp only [List.length_append, setRaw_length, List.length_cons, List.length_nil]; omega)
            · first | omega | (simp; done) | (simp; omega)
            · first | omega | (simp; done) | (simp; omega)
            · intro x hx
              rcases List.mem_append.1 hx with h | h
              · exact hne.out x h
              · simp at h; subst h; exact hfne.out
            · have := hfl.out; rw [List.flatten_append, List.length_append]; simp only [List.flatten_cons, List.flatten_nil, List.append_nil]; omega
          case measure => simp [intOf]; omega
        · have HK0 : Hid ((k : Int) ≠ 0) := by show (k : Int) ≠ 0; omega
          have tk : ((k : Int) == 0) = false := by rw [beq_eq_false_iff_ne]; omega
          have tk2 : (k == 0) = false := by rw [beq_eq_false_iff_ne]; omega
          clear hk0
          have HST := Lib.hid (step_P es ds ls af (k : Int) f HB.out HK0.out)
          go_wp2_with (first
            | (go_at_call 20; rw [ext_drop]; refine (hfirst.out).mono ?_; rintro e w' ⟨rfl, rfl⟩)
            | (go_at_call 21; refine (hbare.out).mono ?_; rintro e w' ⟨rfl, rfl⟩; rw [HB.out])
            | (at_builtin; refine wpList_append_own _ rfl (.tmp 39) (.tmp 41) 42 rfl w.heap.size 9 iS (.string .empty) 1 16 Tryz.underlying42 hS hS0 hS1 hS2 rfl (by decide) _ _ _ rfl (HR.out.lns.alloc _) ⟨_, 0, none⟩ 1 1 [.string ⟨f.toArray⟩] rfl rfl (cells_new' _ _ (by simp) [.string ⟨f.toArray⟩] _) (by simp [Value.oneCell']) (by simp only [maxLen]; omega) (by omega) (Nat.le_trans HR.out.below.size (by simp)) ?_; intro v2 w2 ho2 hg2 _; obtain ⟨A2, c2, rfl⟩ := own_form ho2; have HR3 := Lib.hid ((HR.out.alloc _).addLine f ho2 hg2); clear ho2 hg2)
            | (go_at_call 24; refine (hblank.out _).mono ?_; rintro e w' ⟨rfl, rfl⟩))
          go_roundw
          case rel =>
            refine ⟨k + f.length, es, ds, ls ++ [f], Pm.blank f, Ae, Ad, A2, ce, cd, c2, by first | (simp; done) | (simp [setRaw_nil]; done) | (simp [setRaw_length]; done), by simp, by simp, rfl, by rw [← pos_add], by omega, ?_, ?_, ?_, ?_, ?_, ?_, ?_⟩
            · first | simpa using HR3.out | simpa [setRaw_nil] using HR3.out | simpa [setRaw_length] using HR3.out
            · rw [← pos_add]; exact run_next s k _ _ f hlines.out hrun.out HST.out
            · first | omega | (simp; done) | (simp; omega) | (simp only [List.length_append, setRaw_length, List.length_cons, List.length_nil]; omega)
            · first | omega | (simp; done) | (simp; omega)
            · first | omega | (simp; done) | (simp; omega)
            · intro x hx
              rcases List.mem_append.1 hx with h | h
              · exact hne.out x h
              · simp at h; subst h; exact hfne.out
            · have := hfl.out; rw [List.flatten_append, List.length_append]; simp only [List.flatten_cons, List.flatten_nil, List.append_nil]; omega
          case measure => simp [intOf]; omega
      case true =>
        have HB := Lib.hid hB
        have hsep : Hid (Calls Tryz.prog 22 #[.string ⟨f.toArray⟩] wr (SepPost f wr)) := separator_any ⟨f.toArray⟩ hfs (bare_content f hB) wr HTR.out
        clear hB hdne hfs
        cases hRD : (Pm.sepOf f).2.2
        case false =>
          have HRD := Lib.hid hRD
          clear hRD
          cases af
          case false =>
            have HST := Lib.hid (step_Q es ds ls (k : Int) f HB.out HRD.out)
            go_wp2_with (first
              | (go_at_call 20; rw [ext_drop]; refine (hfirst.out).mono ?_; rintro e w' ⟨rfl, rfl⟩)
              | (go_at_call 21; refine (hbare.out).mono ?_; rintro e w' ⟨rfl, rfl⟩; rw [HB.out])
              | (go_at_call 22; refine (hsep.out).mono ?_; rintro e ws ⟨rfl, hbs⟩; have HR1 := Lib.hid (HR.out.step hbs); rw [HRD.out])
              | (at_builtin; refine wpList_append_own _ rfl (.tmp 76) (.tmp 79) 25 rfl w.heap.size 38 iD (.agg #[.int .i64 0, .int .i64 0]) 2 16 Tryz.underlying25 hD hD0 hD1 hD2 rfl (by decide) _ _ _ rfl (HR1.out.dams.alloc _) ⟨_, 0, none⟩ 1 1 [.int .i64 5, .int .i64 (k : Int)] rfl rfl (cells_new' _ _ (by simp) [.int .i64 5, .int .i64 (k : Int)] _) (by simp [Value.oneCell']) (by simp only [maxLen]; omega) (by omega) (Nat.le_trans HR1.out.below.size (by simp)) ?_; intro v1 w1 ho1 hg1 _; obtain ⟨A1, c1, rfl⟩ := own_form ho1; have HR2 := Lib.hid ((HR1.out.alloc _).addDam ⟨5, (k : Int)⟩ ho1 hg1); clear ho1 hg1)
              | (at_builtin; refine wpList_append_own _ rfl (.tmp 81) (.tmp 83) 42 rfl w.heap.size 9 iS (.string .empty) 1 16 Tryz.underlying42 hS hS0 hS1 hS2 rfl (by decide) _ _ _ rfl (HR2.out.lns.alloc _) ⟨_, 0, none⟩ 1 1 [.string ⟨f.toArray⟩] rfl rfl (cells_new' _ _ (by simp) [.string ⟨f.toArray⟩] _) (by simp [Value.oneCell']) (by simp only [maxLen]; omega) (by omega) (Nat.le_trans HR2.out.below.size (by simp)) ?_; intro v2 w2 ho2 hg2 _; obtain ⟨A2, c2, rfl⟩ := own_form ho2; have HR3 := Lib.hid ((HR2.out.alloc _).addLine f ho2 hg2); clear ho2 hg2)
              | (go_at_call 24; refine (hblank.out _).mono ?_; rintro e w' ⟨rfl, rfl⟩))
            go_roundw
            case rel =>
              refine ⟨k + f.length, es, ds ++ [⟨5, (k : Int)⟩], ls ++ [f], Pm.blank f, Ae, A1, A2, ce, c1, c2, by first | (simp; done) | (simp [setRaw_nil]; done) | (simp [setRaw_length]; done), by simp, by simp, rfl, by rw [← pos_add], by omega, ?_, ?_, ?_, ?_, ?_, ?_, ?_⟩
              · first | simpa using HR3.out | simpa [setRaw_nil] using HR3.out | simpa [setRaw_length] using HR3.out
              · rw [← pos_add]; exact run_next s k _ _ f hlines.out hrun.out HST.out
              · first | omega | (simp; done) | (simp; omega) | (simp only [List.length_append, setRaw_length, List.length_cons, List.length_nil]; omega)
              · first | omega | (simp; done) | (simp; omega)
              · first | omega | (simp; done) | (simp; omega)
              · intro x hx
                rcases List.mem_append.1 hx with h | h
                · exact hne.out x h
                · simp at h; subst h; exact hfne.out
              · have := hfl.out; rw [List.flatten_append, List.length_append]; simp only [List.flatten_cons, List.flatten_nil, List.append_nil]; omega
            case measure => simp [intOf]; omega
          case true =>
            rcases List.eq_nil_or_concat es with hes | ⟨es0, e0, hes⟩
            · subst hes
              have HST := Lib.hid (step_FT [] ds ls (k : Int) f HB.out HRD.out)
              go_wp2_with (first
                | (go_at_call 20; rw [ext_drop]; refine (hfirst.out).mono ?_; rintro e w' ⟨rfl, rfl⟩)
                | (go_at_call 21; refine (hbare.out).mono ?_; rintro e w' ⟨rfl, rfl⟩; rw [HB.out])
                | (go_at_call 22; refine (hsep.out).mono ?_; rintro e ws ⟨rfl, hbs⟩; have HR1 := Lib.hid (HR.out.step hbs); rw [HRD.out])
                | (go_at_call 23; refine (finish_nil _ _ _ _ _ _ rfl _).mono ?_; rintro e w' ⟨rfl, rfl⟩; have HR2 := Lib.hid HR1.out.noLines)
                | (at_builtin; refine wpList_append_own _ rfl (.tmp 54) (.tmp 58) 22 rfl w.heap.size 30 iE (.agg #[.string .empty, .int .i64 0, .string .empty]) 3 40 Tryz.underlying22 hE hE0 hE1 hE2 rfl (by decide) _ _ _ rfl (HR2.out.ents.alloc _) ⟨_, 0, none⟩ 1 1 [.string ⟨(Pm.sepOf f).1.toArray⟩, .int .i64 (Pm.sepOf f).2.1, .string ⟨([] : Pm.Bs).toArray⟩] rfl rfl (cells_new' _ _ (by simp) [.string ⟨(Pm.sepOf f).1.toArray⟩, .int .i64 (Pm.sepOf f).2.1, .string ⟨([] : Pm.Bs).toArray⟩] _) (by simp [Value.oneCell']) (by simp only [maxLen]; omega) (by omega) (Nat.le_trans HR2.out.below.size (by simp)) ?_; intro v1 w1 ho1 hg1 _; obtain ⟨A1, c1, rfl⟩ := own_form ho1; have HR3 := Lib.hid ((HR2.out.alloc _).addEnt ⟨(Pm.sepOf f).1, (Pm.sepOf f).2.1, []⟩ ho1 hg1); clear ho1 hg1)
                | (at_builtin; refine wpList_append_own _ rfl (.tmp 62) (.tmp 65) 25 rfl w.heap.size 38 iD (.agg #[.int .i64 0, .int .i64 0]) 2 16 Tryz.underlying25 hD hD0 hD1 hD2 rfl (by decide) _ _ _ rfl (HR3.out.dams.alloc _) ⟨_, 0, none⟩ 1 1 [.int .i64 2, .int .i64 (k : Int)] rfl rfl (cells_new' _ _ (by simp) [.int .i64 2, .int .i64 (k : Int)] _) (by simp [Value.oneCell']) (by simp only [maxLen]; omega) (by omega) (Nat.le_trans HR3.out.below.size (by simp)) ?_; intro v2 w2 ho2 hg2 _; obtain ⟨A2, c2, rfl⟩ := own_form ho2; have HR4 := Lib.hid ((HR3.out.alloc _).addDam ⟨2, (k : Int)⟩ ho2 hg2); clear ho2 hg2)
                | (go_at_call 24; refine (hblank.out _).mono ?_; rintro e w' ⟨rfl, rfl⟩))
              go_roundw
              case rel =>
                refine ⟨k + f.length, Pm.setRaw [] (Pm.rawOf ls) ++ [⟨(Pm.sepOf f).1, (Pm.sepOf f).2.1, []⟩], ds ++ [⟨2, (k : Int)⟩], [], Pm.blank f, A1, A2, none, c1, c2, 0, by first | (simp; done) | (simp [setRaw_nil]; done) | (simp [setRaw_length]; done), by simp, by simp, rfl, by rw [← pos_add], by omega, ?_, ?_, ?_, ?_, ?_, ?_, ?_⟩
                · first | simpa using HR4.out | simpa [setRaw_nil] using HR4.out | simpa [setRaw_length] using HR4.out
                · rw [← pos_add]; exact run_next s k _ _ f hlines.out hrun.out HST.out
                · first | omega | (simp; done) | (simp; omega) | (simp only [List.length_append, setRaw_length, List.length_cons, List.length_nil]; omega)
                · first | omega | (simp; done) | (simp; omega)
                · first | omega | (simp; done) | (simp; omega)
                · simp
                · simp
              case measure => simp [intOf]; omega
            · have hpos : 0 < es.length := by rw [hes]; simp
              clear hes
              obtain ⟨g, rfl⟩ : ∃ g, Ae = some ⟨g, 0, none⟩ := by
                obtain ⟨g', cap', e, _⟩ := HR.out.ents.form hpos
                injection e with e1; exact ⟨g', e1⟩
              have HST := Lib.hid (step_FT es ds ls (k : Int) f HB.out HRD.out)
              go_wp2_with (first
                | (go_at_call 20; rw [ext_drop]; refine (hfirst.out).mono ?_; rintro e w' ⟨rfl, rfl⟩)
                | (go_at_call 21; refine (hbare.out).mono ?_; rintro e w' ⟨rfl, rfl⟩; rw [HB.out])
                | (go_at_call 22; refine (hsep.out).mono ?_; rintro e ws ⟨rfl, hbs⟩; have HR1 := Lib.hid (HR.out.step hbs); rw [HRD.out])
                | (go_at_call 23; refine (finish_len g _ ce _ _ _ _ ls _ hpos HR1.out.ents HR1.out.lns (by omega) (by omega) hne.out (by have := hfl.out; omega)).mono ?_; rintro e wf ⟨rfl, w1f, hbf, rfl⟩; have HR2 := Lib.hid ((HR1.out.step hbf).setLast' rfl hpos (Pm.rawOf ls)).noLines)
                | (at_builtin; refine wpList_append_own _ rfl (.tmp 54) (.tmp 58) 22 rfl w.heap.size 30 iE (.agg #[.string .empty, .int .i64 0, .string .empty]) 3 40 Tryz.underlying22 hE hE0 hE1 hE2 rfl (by decide) _ _ _ rfl (HR2.out.ents.alloc _) ⟨_, 0, none⟩ 1 1 [.string ⟨(Pm.sepOf f).1.toArray⟩, .int .i64 (Pm.sepOf f).2.1, .string ⟨([] : Pm.Bs).toArray⟩] rfl rfl (cells_new' _ _ (by simp) [.string ⟨(Pm.sepOf f).1.toArray⟩, .int .i64 (Pm.sepOf f).2.1, .string ⟨([] : Pm.Bs).toArray⟩] _) (by simp [Value.oneCell']) (by have := setRaw_length es (Pm.rawOf ls); simp only [maxLen]; omega) (by have := setRaw_length es (Pm.rawOf ls); omega) (Nat.le_trans HR2.out.below.size (by simp)) ?_; intro v1 w1 ho1 hg1 _; obtain ⟨A1, c1, rfl⟩ := own_form ho1; have HR3 := Lib.hid ((HR2.out.alloc _).addEnt ⟨(Pm.sepOf f).1, (Pm.sepOf f).2.1, []⟩ ho1 hg1); clear ho1 hg1)
                | (at_builtin; refine wpList_append_own _ rfl (.tmp 62) (.tmp 65) 25 rfl w.heap.size 38 iD (.agg #[.int .i64 0, .int .i64 0]) 2 16 Tryz.underlying25 hD hD0 hD1 hD2 rfl (by decide) _ _ _ rfl (HR3.out.dams.alloc _) ⟨_, 0, none⟩ 1 1 [.int .i64 2, .int .i64 (k : Int)] rfl rfl (cells_new' _ _ (by simp) [.int .i64 2, .int .i64 (k : Int)] _) (by simp [Value.oneCell']) (by simp only [maxLen]; omega) (by omega) (Nat.le_trans HR3.out.below.size (by simp)) ?_; intro v2 w2 ho2 hg2 _; obtain ⟨A2, c2, rfl⟩ := own_form ho2; have HR4 := Lib.hid ((HR3.out.alloc _).addDam ⟨2, (k : Int)⟩ ho2 hg2); clear ho2 hg2)
                | (go_at_call 24; refine (hblank.out _).mono ?_; rintro e w' ⟨rfl, rfl⟩))
              go_roundw
              case rel =>
                refine ⟨k + f.length, Pm.setRaw es (Pm.rawOf ls) ++ [⟨(Pm.sepOf f).1, (Pm.sepOf f).2.1, []⟩], ds ++ [⟨2, (k : Int)⟩], [], Pm.blank f, A1, A2, none, c1, c2, 0, by first | (simp; done) | (simp [setRaw_nil]; done) | (simp [setRaw_length]; done), by simp, by simp, rfl, by rw [← pos_add], by omega, ?_, ?_, ?_, ?_, ?_, ?_, ?_⟩
                · first | simpa using HR4.out | simpa [setRaw_nil] using HR4.out | simpa [setRaw_length] using HR4.out
                · rw [← pos_add]; exact run_next s k _ _ f hlines.out hrun.out HST.out
                · first | omega | (simp; done) | (simp; omega) | (simp only [List.length_append, setRaw_length, List.length_cons, List.length_nil]; omega)
                · first | omega | (simp; done) | (simp; omega)
                · first | omega | (simp; done) | (simp; omega)
                · simp
                · simp
              case measure => simp [intOf]; omega
        case true =>
          have HRD := Lib.hid hRD
          clear hRD
          cases af
          case false =>
            rcases List.eq_nil_or_concat es with hes | ⟨es0, e0, hes⟩
            · subst hes
              have HST := Lib.hid (step_TF [] ds ls (k : Int) f HB.out HRD.out)
              go_wp2_with (first
                | (go_at_call 20; rw [ext_drop]; refine (hfirst.out).mono ?_; rintro e w' ⟨rfl, rfl⟩)
                | (go_at_call 21; refine (hbare.out).mono ?_; rintro e w' ⟨rfl, rfl⟩; rw [HB.out])
                | (go_at_call 22; refine (hsep.out).mono ?_; rintro e ws ⟨rfl, hbs⟩; have HR1 := Lib.hid (HR.out.step hbs); rw [HRD.out])
                | (go_at_call 23; refine (finish_nil _ _ _ _ _ _ rfl _).mono ?_; rintro e w' ⟨rfl, rfl⟩; have HR2 := Lib.hid HR1.out.noLines)
                | (at_builtin; refine wpList_append_own _ rfl (.tmp 54) (.tmp 58) 22 rfl w.heap.size 30 iE (.agg #[.string .empty, .int .i64 0, .string .empty]) 3 40 Tryz.underlying22 hE hE0 hE1 hE2 rfl (by decide) _ _ _ rfl (HR2.out.ents.alloc _) ⟨_, 0, none⟩ 1 1 [.string ⟨(Pm.sepOf f).1.toArray⟩, .int .i64 (Pm.sepOf f).2.1, .string ⟨([] : Pm.Bs).toArray⟩] rfl rfl (cells_new' _ _ (by simp) [.string ⟨(Pm.sepOf f).1.toArray⟩, .int .i64 (Pm.sepOf f).2.1, .string ⟨([] : Pm.Bs).toArray⟩] _) (by simp [Value.oneCell']) (by simp only [maxLen]; omega) (by omega) (Nat.le_trans HR2.out.below.size (by simp)) ?_; intro v1 w1 ho1 hg1 _; obtain ⟨A1, c1, rfl⟩ := own_form ho1; have HR3 := Lib.hid ((HR2.out.alloc _).addEnt ⟨(Pm.sepOf f).1, (Pm.sepOf f).2.1, []⟩ ho1 hg1); clear ho1 hg1)
                | (at_builtin; refine wpList_append_own _ rfl (.tmp 69) (.tmp 72) 25 rfl w.heap.size 38 iD (.agg #[.int .i64 0, .int .i64 0]) 2 16 Tryz.underlying25 hD hD0 hD1 hD2 rfl (by decide) _ _ _ rfl (HR3.out.dams.alloc _) ⟨_, 0, none⟩ 1 1 [.int .i64 3, .int .i64 (k : Int)] rfl rfl (cells_new' _ _ (by simp) [.int .i64 3, .int .i64 (k : Int)] _) (by simp [Value.oneCell']) (by simp only [maxLen]; omega) (by omega) (Nat.le_trans HR3.out.below.size (by simp)) ?_; intro v2 w2 ho2 hg2 _; obtain ⟨A2, c2, rfl⟩ := own_form ho2; have HR4 := Lib.hid ((HR3.out.alloc _).addDam ⟨3, (k : Int)⟩ ho2 hg2); clear ho2 hg2)
                | (go_at_call 24; refine (hblank.out _).mono ?_; rintro e w' ⟨rfl, rfl⟩))
              go_roundw
              case rel =>
                refine ⟨k + f.length, Pm.setRaw [] (Pm.rawOf ls) ++ [⟨(Pm.sepOf f).1, (Pm.sepOf f).2.1, []⟩], ds ++ [⟨3, (k : Int)⟩], [], Pm.blank f, A1, A2, none, c1, c2, 0, by first | (simp; done) | (simp [setRaw_nil]; done) | (simp [setRaw_length]; done), by simp, by simp, rfl, by rw [← pos_add], by omega, ?_, ?_, ?_, ?_, ?_, ?_, ?_⟩
                · first | simpa using HR4.out | simpa [setRaw_nil] using HR4.out | simpa [setRaw_length] using HR4.out
                · rw [← pos_add]; exact run_next s k _ _ f hlines.out hrun.out HST.out
                · first | omega | (simp; done) | (simp; omega) | (simp only [List.length_append, setRaw_length, List.length_cons, List.length_nil]; omega)
                · first | omega | (simp; done) | (simp; omega)
                · first | omega | (simp; done) | (simp; omega)
                · simp
                · simp
              case measure => simp [intOf]; omega
            · have hpos : 0 < es.length := by rw [hes]; simp
              clear hes
              obtain ⟨g, rfl⟩ : ∃ g, Ae = some ⟨g, 0, none⟩ := by
                obtain ⟨g', cap', e, _⟩ := HR.out.ents.form hpos
                injection e with e1; exact ⟨g', e1⟩
              have HST := Lib.hid (step_TF es ds ls (k : Int) f HB.out HRD.out)
              go_wp2_with (first
                | (go_at_call 20; rw [ext_drop]; refine (hfirst.out).mono ?_; rintro e w' ⟨rfl, rfl⟩)
                | (go_at_call 21; refine (hbare.out).mono ?_; rintro e w' ⟨rfl, rfl⟩; rw [HB.out])
                | (go_at_call 22; refine (hsep.out).mono ?_; rintro e ws ⟨rfl, hbs⟩; have HR1 := Lib.hid (HR.out.step hbs); rw [HRD.out])
                | (go_at_call 23; refine (finish_len g _ ce _ _ _ _ ls _ hpos HR1.out.ents HR1.out.lns (by omega) (by omega) hne.out (by have := hfl.out; omega)).mono ?_; rintro e wf ⟨rfl, w1f, hbf, rfl⟩; have HR2 := Lib.hid ((HR1.out.step hbf).setLast' rfl hpos (Pm.rawOf ls)).noLines)
                | (at_builtin; refine wpList_append_own _ rfl (.tmp 54) (.tmp 58) 22 rfl w.heap.size 30 iE (.agg #[.string .empty, .int .i64 0, .string .empty]) 3 40 Tryz.underlying22 hE hE0 hE1 hE2 rfl (by decide) _ _ _ rfl (HR2.out.ents.alloc _) ⟨_, 0, none⟩ 1 1 [.string ⟨(Pm.sepOf f).1.toArray⟩, .int .i64 (Pm.sepOf f).2.1, .string ⟨([] : Pm.Bs).toArray⟩] rfl rfl (cells_new' _ _ (by simp) [.string ⟨(Pm.sepOf f).1.toArray⟩, .int .i64 (Pm.sepOf f).2.1, .string ⟨([] : Pm.Bs).toArray⟩] _) (by simp [Value.oneCell']) (by have := setRaw_length es (Pm.rawOf ls); simp only [maxLen]; omega) (by have := setRaw_length es (Pm.rawOf ls); omega) (Nat.le_trans HR2.out.below.size (by simp)) ?_; intro v1 w1 ho1 hg1 _; obtain ⟨A1, c1, rfl⟩ := own_form ho1; have HR3 := Lib.hid ((HR2.out.alloc _).addEnt ⟨(Pm.sepOf f).1, (Pm.sepOf f).2.1, []⟩ ho1 hg1); clear ho1 hg1)
                | (at_builtin; refine wpList_append_own _ rfl (.tmp 69) (.tmp 72) 25 rfl w.heap.size 38 iD (.agg #[.int .i64 0, .int .i64 0]) 2 16 Tryz.underlying25 hD hD0 hD1 hD2 rfl (by decide) _ _ _ rfl (HR3.out.dams.alloc _) ⟨_, 0, none⟩ 1 1 [.int .i64 3, .int .i64 (k : Int)] rfl rfl (cells_new' _ _ (by simp) [.int .i64 3, .int .i64 (k : Int)] _) (by simp [Value.oneCell']) (by simp only [maxLen]; omega) (by omega) (Nat.le_trans HR3.out.below.size (by simp)) ?_; intro v2 w2 ho2 hg2 _; obtain ⟨A2, c2, rfl⟩ := own_form ho2; have HR4 := Lib.hid ((HR3.out.alloc _).addDam ⟨3, (k : Int)⟩ ho2 hg2); clear ho2 hg2)
                | (go_at_call 24; refine (hblank.out _).mono ?_; rintro e w' ⟨rfl, rfl⟩))
              go_roundw
              case rel =>
                refine ⟨k + f.length, Pm.setRaw es (Pm.rawOf ls) ++ [⟨(Pm.sepOf f).1, (Pm.sepOf f).2.1, []⟩], ds ++ [⟨3, (k : Int)⟩], [], Pm.blank f, A1, A2, none, c1, c2, 0, by first | (simp; done) | (simp [setRaw_nil]; done) | (simp [setRaw_length]; done), by simp, by simp, rfl, by rw [← pos_add], by omega, ?_, ?_, ?_, ?_, ?_, ?_, ?_⟩
                · first | simpa using HR4.out | simpa [setRaw_nil] using HR4.out | simpa [setRaw_length] using HR4.out
                · rw [← pos_add]; exact run_next s k _ _ f hlines.out hrun.out HST.out
                · first | omega | (simp; done) | (simp; omega) | (simp only [List.length_append, setRaw_length, List.length_cons, List.length_nil]; omega)
                · first | omega | (simp; done) | (simp; omega)
                · first | omega | (simp; done) | (simp; omega)
                · simp
                · simp
              case measure => simp [intOf]; omega
          case true =>
            rcases List.eq_nil_or_concat es with hes | ⟨es0, e0, hes⟩
            · subst hes
              have HST := Lib.hid (step_TT [] ds ls (k : Int) f HB.out HRD.out)
              go_wp2_with (first
                | (go_at_call 20; rw [ext_drop]; refine (hfirst.out).mono ?_; rintro e w' ⟨rfl, rfl⟩)
                | (go_at_call 21; refine (hbare.out).mono ?_; rintro e w' ⟨rfl, rfl⟩; rw [HB.out])
                | (go_at_call 22; refine (hsep.out).mono ?_; rintro e ws ⟨rfl, hbs⟩; have HR1 := Lib.hid (HR.out.step hbs); rw [HRD.out])
                | (go_at_call 23; refine (finish_nil _ _ _ _ _ _ rfl _).mono ?_; rintro e w' ⟨rfl, rfl⟩; have HR2 := Lib.hid HR1.out.noLines)
                | (at_builtin; refine wpList_append_own _ rfl (.tmp 54) (.tmp 58) 22 rfl w.heap.size 30 iE (.agg #[.string .empty, .int .i64 0, .string .empty]) 3 40 Tryz.underlying22 hE hE0 hE1 hE2 rfl (by decide) _ _ _ rfl (HR2.out.ents.alloc _) ⟨_, 0, none⟩ 1 1 [.string ⟨(Pm.sepOf f).1.toArray⟩, .int .i64 (Pm.sepOf f).2.1, .string ⟨([] : Pm.Bs).toArray⟩] rfl rfl (cells_new' _ _ (by simp) [.string ⟨(Pm.sepOf f).1.toArray⟩, .int .i64 (Pm.sepOf f).2.1, .string ⟨([] : Pm.Bs).toArray⟩] _) (by simp [Value.oneCell']) (by simp only [maxLen]; omega) (by omega) (Nat.le_trans HR2.out.below.size (by simp)) ?_; intro v1 w1 ho1 hg1 _; obtain ⟨A1, c1, rfl⟩ := own_form ho1; have HR3 := Lib.hid ((HR2.out.alloc _).addEnt ⟨(Pm.sepOf f).1, (Pm.sepOf f).2.1, []⟩ ho1 hg1); clear ho1 hg1)
                | (go_at_call 24; refine (hblank.out _).mono ?_; rintro e w' ⟨rfl, rfl⟩))
              go_roundw
              case rel =>
                refine ⟨k + f.length, Pm.setRaw [] (Pm.rawOf ls) ++ [⟨(Pm.sepOf f).1, (Pm.sepOf f).2.1, []⟩], ds, [], Pm.blank f, A1, Ad, none, c1, cd, 0, by first | (simp; done) | (simp [setRaw_nil]; done) | (simp [setRaw_length]; done), by simp, by simp, rfl, by rw [← pos_add], by omega, ?_, ?_, ?_, ?_, ?_, ?_, ?_⟩
                · first | simpa using HR3.out | simpa [setRaw_nil] using HR3.out | simpa [setRaw_length] using HR3.out
                · rw [← pos_add]; exact run_next s k _ _ f hlines.out hrun.out HST.out
                · first | omega | (simp; done) | (simp; omega) | (simp only [List.length_append, setRaw_length, List.length_cons, List.length_nil]; omega)
                · first | omega | (simp; done) | (simp; omega)
                · first | omega | (simp; done) | (simp; omega)
                · simp
                · simp
              case measure => simp [intOf]; omega
            · have hpos : 0 < es.length := by rw [hes]; simp
              clear hes
              obtain ⟨g, rfl⟩ : ∃ g, Ae = some ⟨g, 0, none⟩ := by
                obtain ⟨g', cap', e, _⟩ := HR.out.ents.form hpos
                injection e with e1; exact ⟨g', e1⟩
              have HST := Lib.hid (step_TT es ds ls (k : Int) f HB.out HRD.out)
              go_wp2_with (first
                | (go_at_call 20; rw [ext_drop]; refine (hfirst.out).mono ?_; rintro e w' ⟨rfl, rfl⟩)
                | (go_at_call 21; refine (hbare.out).mono ?_; rintro e w' ⟨rfl, rfl⟩; rw [HB.out])
                | (go_at_call 22; refine (hsep.out).mono ?_; rintro e ws ⟨rfl, hbs⟩; have HR1 := Lib.hid (HR.out.step hbs); rw [HRD.out])
                | (go_at_call 23; refine (finish_len g _ ce _ _ _ _ ls _ hpos HR1.out.ents HR1.out.lns (by omega) (by omega) hne.out (by have := hfl.out; omega)).mono ?_; rintro e wf ⟨rfl, w1f, hbf, rfl⟩; have HR2 := Lib.hid ((HR1.out.step hbf).setLast' rfl hpos (Pm.rawOf ls)).noLines)
                | (at_builtin; refine wpList_append_own _ rfl (.tmp 54) (.tmp 58) 22 rfl w.heap.size 30 iE (.agg #[.string .empty, .int .i64 0, .string .empty]) 3 40 Tryz.underlying22 hE hE0 hE1 hE2 rfl (by decide) _ _ _ rfl (HR2.out.ents.alloc _) ⟨_, 0, none⟩ 1 1 [.string ⟨(Pm.sepOf f).1.toArray⟩, .int .i64 (Pm.sepOf f).2.1, .string ⟨([] : Pm.Bs).toArray⟩] rfl rfl (cells_new' _ _ (by simp) [.string ⟨(Pm.sepOf f).1.toArray⟩, .int .i64 (Pm.sepOf f).2.1, .string ⟨([] : Pm.Bs).toArray⟩] _) (by simp [Value.oneCell']) (by have := setRaw_length es (Pm.rawOf ls); simp only [maxLen]; omega) (by have := setRaw_length es (Pm.rawOf ls); omega) (Nat.le_trans HR2.out.below.size (by simp)) ?_; intro v1 w1 ho1 hg1 _; obtain ⟨A1, c1, rfl⟩ := own_form ho1; have HR3 := Lib.hid ((HR2.out.alloc _).addEnt ⟨(Pm.sepOf f).1, (Pm.sepOf f).2.1, []⟩ ho1 hg1); clear ho1 hg1)
                | (go_at_call 24; refine (hblank.out _).mono ?_; rintro e w' ⟨rfl, rfl⟩))
              go_roundw
              case rel =>
                refine ⟨k + f.length, Pm.setRaw es (Pm.rawOf ls) ++ [⟨(Pm.sepOf f).1, (Pm.sepOf f).2.1, []⟩], ds, [], Pm.blank f, A1, Ad, none, c1, cd, 0, by first | (simp; done) | (simp [setRaw_nil]; done) | (simp [setRaw_length]; done), by simp, by simp, rfl, by rw [← pos_add], by omega, ?_, ?_, ?_, ?_, ?_, ?_, ?_⟩
                · first | simpa using HR3.out | simpa [setRaw_nil] using HR3.out | simpa [setRaw_length] using HR3.out
                · rw [← pos_add]; exact run_next s k _ _ f hlines.out hrun.out HST.out
                · first | omega | (simp; done) | (simp; omega) | (simp only [List.length_append, setRaw_length, List.length_cons, List.length_nil]; omega)
                · first | omega | (simp; done) | (simp; omega)
                · first | omega | (simp; done) | (simp; omega)
                · simp
                · simp
              case measure => simp [intOf]; omega
    · have hke : k = s.size := by omega
      have hrd : Hid (Pm.read s.data.toList = (Pm.setRaw es (Pm.rawOf ls), ds ++ Pm.endDam (Pm.setRaw es (Pm.rawOf ls)) s.data.toList.length)) := by
        refine read_eq _ es ds ls af k ?_
        have h := hrun.out
        rw [hke, hsz.out, List.drop_length] at h
        rw [← h, hke, hsz.out]; rfl
      have hge : ¬ (k : Int) < (s.size : Int) := by omega
      clear hke
      rcases List.eq_nil_or_concat es with hes | ⟨es0, e0, hes⟩
      · subst hes
        go_wp2_with (go_at_call 23; refine (finish_nil _ _ _ _ _ _ rfl _).mono ?_; rintro e w' ⟨rfl, rfl⟩)
        go_ret2
        have hr := hrd.out
        rw [setRaw_nil, endDam_nil, List.append_nil] at hr
        unfold ReadPost
        rw [hr]
        exact ⟨Ae, Ad, ce, cd, rfl, HR.out.ents, HR.out.dams, HR.out.below⟩
      · have hpos : 0 < es.length := by rw [hes]; simp
        clear hes
        obtain ⟨g, rfl⟩ : ∃ g, Ae = some ⟨g, 0, none⟩ := by
          obtain ⟨g', cap', e, _⟩ := HR.out.ents.form hpos
          injection e with e1; exact ⟨g', e1⟩
        have hrl := rawOf_le ls
        have hrz : (⟨(Pm.rawOf ls).toArray⟩ : ByteArray).size ≤ 4294967280 := by
          have := hfl.out
          rw [Lib.size_eq]; simp; omega
        have hbl : Hid (∀ W, Calls Tryz.prog 25 #[.string ⟨(Pm.rawOf ls).toArray⟩] W fun e w' => e = .returned (.bool (Pm.hasBlank (Pm.rawOf ls))) ∧ W = w') := fun W => hasBlank_any ⟨(Pm.rawOf ls).toArray⟩ hrz W
        have hcx : Hid (∃ v, (entCells es)[(es.length - 1) * 3 + 2]? = some v) := ⟨_, List.getElem?_eq_getElem (by rw [entCells_length]; omega)⟩
        clear hrl hrz
        cases hH : Pm.hasBlank (Pm.rawOf ls)
        case true =>
          have HH := Lib.hid hH
          clear hH
          go_wp2_with (first
            | (go_at_call 23; refine (finish_len g _ ce _ _ _ _ ls _ hpos HR.out.ents HR.out.lns (by omega) (by omega) hne.out (by have := hfl.out; omega)).mono ?_; rintro e wf ⟨rfl, w1f, hbf, rfl⟩; have HR2 := Lib.hid ((HR.out.step hbf).setLast' rfl hpos (Pm.rawOf ls)).noLines; have hcr : (w1f.setCell ⟨g, (es.length - 1) * 3 + 2, none⟩ (.string ⟨(Pm.rawOf ls).toArray⟩)).cell? ⟨g, (es.length - 1) * 3 + 2, none⟩ = some (.string ⟨(Pm.rawOf ls).toArray⟩) := World.cell?_setCell_same' _ _ _ (by obtain ⟨v, hv⟩ := hcx.out; rw [(HR.out.step hbf).ents.cellAt _ (by omega), hv]; rfl))
            | (go_at_call 25; refine (hbl.out _).mono ?_; rintro e w' ⟨rfl, rfl⟩; rw [HH.out]))
          go_ret2
          have hr := hrd.out
          rw [endDam_last es _ _ hpos, if_pos HH.out, List.append_nil] at hr
          unfold ReadPost
          rw [hr]
          exact ⟨some ⟨g, 0, none⟩, Ad, ce, cd, by simp [setRaw_length], by simpa [setRaw_length] using HR2.out.ents, HR2.out.dams, HR2.out.below⟩
        case false =>
          have HH := Lib.hid hH
          clear hH
          go_wp2_with (first
            | (go_at_call 23; refine (finish_len g _ ce _ _ _ _ ls _ hpos HR.out.ents HR.out.lns (by omega) (by omega) hne.out (by have := hfl.out; omega)).mono ?_; rintro e wf ⟨rfl, w1f, hbf, rfl⟩; have HR2 := Lib.hid ((HR.out.step hbf).setLast' rfl hpos (Pm.rawOf ls)).noLines; have hcr : (w1f.setCell ⟨g, (es.length - 1) * 3 + 2, none⟩ (.string ⟨(Pm.rawOf ls).toArray⟩)).cell? ⟨g, (es.length - 1) * 3 + 2, none⟩ = some (.string ⟨(Pm.rawOf ls).toArray⟩) := World.cell?_setCell_same' _ _ _ (by obtain ⟨v, hv⟩ := hcx.out; rw [(HR.out.step hbf).ents.cellAt _ (by omega), hv]; rfl))
            | (go_at_call 25; refine (hbl.out _).mono ?_; rintro e w' ⟨rfl, rfl⟩; rw [HH.out])
            | (at_builtin; refine wpList_append_own _ rfl (.tmp 108) (.tmp 112) 25 rfl w.heap.size 38 iD (.agg #[.int .i64 0, .int .i64 0]) 2 16 Tryz.underlying25 hD hD0 hD1 hD2 rfl (by decide) _ _ _ rfl (HR2.out.dams.alloc _) ⟨_, 0, none⟩ 1 1 [.int .i64 4, .int .i64 (s.size : Int)] rfl rfl (cells_new' _ _ (by simp) [.int .i64 4, .int .i64 (s.size : Int)] _) (by simp [Value.oneCell']) (by simp only [maxLen]; omega) (by omega) (Nat.le_trans HR2.out.below.size (by simp)) ?_; intro v1 w1 ho1 hg1 _; obtain ⟨A1, c1, rfl⟩ := own_form ho1; have HR3 := Lib.hid ((HR2.out.alloc _).addDam ⟨4, (s.size : Int)⟩ ho1 hg1); clear ho1 hg1))
          go_ret2
          have hr := hrd.out
          rw [endDam_last es _ _ hpos, if_neg (by rw [HH.out]; simp), ← hsz.out] at hr
          unfold ReadPost
          rw [hr]
          exact ⟨some ⟨g, 0, none⟩, A1, ce, c1, by simp [setRaw_length], by simpa [setRaw_length] using HR3.out.ents, by simpa using HR3.out.dams, HR3.out.below⟩

end Go.Proofs.YtbhhaehdoiaihaaGreatDoor
