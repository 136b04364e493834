/- The walk of missivelaw16.MboxBytes. -/
import Derived.Test.YtbhhaehdoiaihaaDoorWo
import Derived.Test.YtbhhaehdoiaihaaDoorPb
namespace Go.Proofs.YtbhhaehdoiaihaaDoor
open Go.RowKit

theorem entCells_raw (es : List Pm.Ent) (k : Nat) (h : k < es.length) : (entCells es)[k * 3 + 2]? = some (.string ⟨es[k].raw.toArray⟩) := by
  induction es generalizing k with
  | nil => simp at h
  | cons e es ih =>
    cases k with
    | zero => rfl
    | succ k =>
      have := ih k (by simpa using h)
      rw [show (k + 1) * 3 + 2 = (k * 3 + 2) + 3 by omega]
      simpa [entCells] using this
theorem entCells_from (es : List Pm.Ent) (k : Nat) (h : k < es.length) : (entCells es)[k * 3]? = some (.string ⟨es[k].sender.toArray⟩) := by
  induction es generalizing k with
  | nil => simp at h
  | cons e es ih =>
    cases k with
    | zero => rfl
    | succ k =>
      have := ih k (by simpa using h)
      rw [show (k + 1) * 3 = (k * 3) + 3 by omega]
      simpa [entCells] using this
theorem entCells_date (es : List Pm.Ent) (k : Nat) (h : k < es.length) : (entCells es)[k * 3 + 1]? = some (.int .i64 es[k].date) := by
  induction es generalizing k with
  | nil => simp at h
  | cons e es ih =>
    cases k with
    | zero => rfl
    | succ k =>
      have := ih k (by simpa using h)
      rw [show (k + 1) * 3 + 1 = (k * 3 + 1) + 3 by omega]
      simpa [entCells] using this
theorem damCells_kind (es : List Pm.Dam) (k : Nat) (h : k < es.length) : (damCells es)[k * 2]? = some (.int .i64 es[k].kind) := by
  induction es generalizing k with
  | nil => simp at h
  | cons e es ih =>
    cases k with
    | zero => rfl
    | succ k =>
      have := ih k (by simpa using h)
      rw [show (k + 1) * 2 = (k * 2) + 2 by omega]
      simpa [damCells] using this
theorem damCells_at (es : List Pm.Dam) (k : Nat) (h : k < es.length) : (damCells es)[k * 2 + 1]? = some (.int .i64 es[k].at_) := by
  induction es generalizing k with
  | nil => simp at h
  | cons e es ih =>
    cases k with
    | zero => rfl
    | succ k =>
      have := ih k (by simpa using h)
      rw [show (k + 1) * 2 + 1 = (k * 2 + 1) + 2 by omega]
      simpa [damCells] using this
theorem own_drewN {w : World} {base : Nat} {e : TypeId} {size n : Nat} {v : Value} {xs : List Value} (h : w.ownsRow base e size v n xs) (m : Nat) : (w.drewN m).ownsRow base e size v n xs := h
theorem own_len {w : World} {base : Nat} {e : TypeId} {size n : Nat} {v : Value} {xs : List Value} (h : w.ownsRow base e size v n xs) : n ≤ 9223372036854775807 := by
  rcases h.2 with ⟨_, h0⟩ | ⟨g, cap, cur, _, _, _, h1, h2, _⟩
  · omega
  · simp only [maxLen] at h2; omega
theorem wt_take (es : List Pm.Ent) (k : Nat) (h : k < es.length) : Pm.wt (es.take (k + 1)) = Pm.wt (es.take k) + (es[k].sender.length + 5 + es[k].raw.length) := by
  rw [List.take_succ_eq_append_getElem h, Pm.wt_snoc]
theorem wt_take_le (es : List Pm.Ent) (k : Nat) : Pm.wt (es.take k) ≤ Pm.wt es := by
  conv => rhs; rw [← List.take_append_drop k es]
  unfold Pm.wt
  rw [List.map_append, List.sum_append]; omega

theorem bares_take (L : List Pm.Bs) (k : Nat) (h : k < L.length) : Pm.bares (L.take (k + 1)) = Pm.bares (L.take k) + (if Pm.bare L[k] then 1 else 0) := by
  rw [List.take_succ_eq_append_getElem h, Pm.bares_snoc]
theorem bare_test (x : Pm.Bs) (_h : 5 ≤ x.length) : (((⟨x.toArray⟩ : ByteArray).extract 0 5).toList == [70, 114, 111, 109, 32]) = Pm.bare x := by
  rw [Lib.toList_data, Lib.extract_eq]
  show (x.take 5 == Pm.fromB) = _
  unfold Pm.bare Lib.hasPrefix
  rw [Bool.eq_iff_iff, beq_iff_eq, List.isPrefixOf_iff_prefix, List.prefix_iff_eq_take]
  exact eq_comm
theorem quotes_take (L : List Pm.Dam) (k : Nat) (h : k < L.length) : Pm.quotes (L.take (k + 1)) = Pm.quotes (L.take k) + (if L[k].kind = 5 then 1 else 0) := by
  rw [List.take_succ_eq_append_getElem h, Pm.quotes_snoc]
theorem quotes_le (L : List Pm.Dam) : Pm.quotes L ≤ L.length := List.length_filter_le _ _
theorem bares_le (L : List Pm.Bs) : Pm.bares L ≤ L.length := List.length_filter_le _ _

set_option maxRecDepth 100000 in
set_option maxHeartbeats 6400000 in
theorem mboxBytes_any (s : ByteArray) (hmax : s.size ≤ 9223372036854775807) (w : World) (ht : Tab w) :
    Calls Tryd.prog 3 #[.string s] w (BoolPost true w) := by
  have hsm := Lib.hid (small_any w ht)
  have HT := Lib.hid ht
  clear ht
  unfold BoolPost
  by_cases hs : 4000 < s.size
  · have hs' : 4000 < (s.size : Int) := by omega
    go_enter Tryd.func3, Tryd.ntmps3
    go_wp2_with (go_at_call 4; refine (hsm.out).mono ?_; rintro e w1 ⟨rfl, hb1⟩)
    go_ret
    exact ⟨rfl, hb1⟩
  have hs' : ¬ 4000 < (s.size : Int) := by omega
  have hrd := Lib.hid (fun w ht => read_any s (by omega) w ht)
  have hln := Lib.hid (fun w => lines_any s (by omega) w)
  have hF := Pm.read_facts s.data.toList
  obtain ⟨G1, G2, G3, G4, G5⟩ := hF
  unfold ReadPost at hrd
  unfold LinesPost at hln
  generalize hrr : Pm.read s.data.toList = r at *
  obtain ⟨es, ds⟩ := r
  clear hrr
  dsimp only at *
  have F1 := Lib.hid G1
  have F2 := Lib.hid G2
  have F3 := Lib.hid G3
  have F4 := Lib.hid G4
  have F5 := Lib.hid G5
  clear G1 G2 G3 G4 G5
  have hsz := Lib.hid (Lib.size_eq s)
  have hel : es.length ≤ 4000 := by
    have := F1.out; rw [← hsz.out] at this
    have h5 : ∀ es : List Pm.Ent, es.length ≤ Pm.wt es := by
      intro es; induction es with
      | nil => simp
      | cons e es ih => unfold Pm.wt at ih ⊢; simp only [List.length_cons, List.map_cons, List.sum_cons]; omega
    have := h5 es; omega
  go_enter Tryd.func3, Tryd.ntmps3
  go_wp2_with (first
    | (go_at_call 4; refine (hsm.out).mono ?_; rintro e w1 ⟨rfl, hb1⟩)
    | (go_at_call 5; refine (hrd.out _ (HT.out.below hb1)).mono ?_; rintro e w2 ⟨Ae, Ad, ce, cd, rfl, hE, hD, hb⟩; have HE := Lib.hid hE; have HD := Lib.hid hD; have HB := Lib.hid (hb1.trans (hb.mono hb1.size)); clear hb hb1 hE hD))
  go_loopw [6, 7] (fun v6 v7 wr => ∃ (k m : Nat), k ≤ es.length ∧ v7 = .int .i64 k ∧ v6 = .int .i64 ((Pm.wt (es.take k) : Nat) : Int) ∧ wr = w2.drewN m) (fun _ v7 _ => es.length - (intOf v7).toNat)
  case atStart => exact ⟨0, 0, by omega, rfl, rfl, rfl⟩
  case round =>
    obtain ⟨k, m, hk, rfl, rfl, rfl⟩ := hrel
    by_cases hlt : k < es.length
    · have hlt' : (k : Int) < (es.length : Int) := by omega
      obtain ⟨g, rfl⟩ := row_some HE.out (by omega)
      have q1 : w2.cell? ⟨g, k * 3 + 2, none⟩ = some (.string ⟨es[k].raw.toArray⟩) := (HE.out.cellAt _ (by omega)).trans (entCells_raw es k hlt)
      have q2 : w2.cell? ⟨g, k * 3, none⟩ = some (.string ⟨es[k].sender.toArray⟩) := (HE.out.cellAt _ (by omega)).trans (entCells_from es k hlt)
      have t1 := Lib.hid (wt_take es k hlt)
      have t2 := wt_take_le es (k + 1)
      have t3 := F1.out
      rw [← hsz.out] at t3
      rw [t1.out] at t2
      generalize es[k].raw = R at *
      generalize es[k].sender = S at *
      have e1 : IntKind.i64.wrap (((Pm.wt (es.take k) : Nat) : Int) + (R.length : Int)) = ((Pm.wt (es.take k) : Nat) : Int) + (R.length : Int) := by rw [IntWalk.i64_in _ (by omega)]
      have e2 : IntKind.i64.wrap (((Pm.wt (es.take k) : Nat) : Int) + (R.length : Int) + (S.length : Int)) = ((Pm.wt (es.take k) : Nat) : Int) + (R.length : Int) + (S.length : Int) := by rw [IntWalk.i64_in _ (by omega)]
      have e3 : IntKind.i64.wrap (((Pm.wt (es.take k) : Nat) : Int) + (R.length : Int) + (S.length : Int) + 5) = ((Pm.wt (es.take k) : Nat) : Int) + (R.length : Int) + (S.length : Int) + 5 := by rw [IntWalk.i64_in _ (by omega)]
      have t4 : Hid (Pm.wt (es.take k) + R.length + S.length + 5 = Pm.wt (es.take (k + 1))) := Lib.hid (by rw [t1.out]; omega)
      clear t1 t2 t3
      go_wp2
      go_quiet (fail)
      go_wp2
      go_roundw
      case rel => exact ⟨k + 1, _, by omega, by go_num, congrArg (Value.int .i64) (by rw [← t4.out]; omega), rfl⟩
      case measure => simp [intOf]; omega
    · have hke : k = es.length := by omega
      subst hke
      rw [List.take_length]
      have t3 : ¬ (s.size : Int) < ((Pm.wt es : Nat) : Int) := by have := F1.out; rw [← hsz.out] at this; omega
      have HBm := Lib.hid (below_drewN HB.out m)
      go_wp2_with (first
        | (go_at_call 6; refine (hln.out _).mono ?_; rintro e w3 ⟨Al, cl, rfl, hL, hb⟩; have HL := Lib.hid hL; have HB3 := Lib.hid hb; clear hb hL))
      have HB4 := Lib.hid (HBm.out.trans (HB3.out.mono HBm.out.size))
      have HE3 := Lib.hid (own_below (own_drewN HE.out m) HB3.out)
      have HD3 := Lib.hid (own_below (own_drewN HD.out m) HB3.out)
      clear HE HD HBm HB3 hrd hln hsm HB HT t3
      have F6 := Lib.hid (Pm.lines_flatten s.data.toList)
      generalize Pm.lines s.data.toList = L at *
      have hLl : ∀ x ∈ L, x.length ≤ 4000 := fun x hx => by
        have := flatten_mem L x hx; rw [F6.out, ← hsz.out] at this; omega
      have hLn : L.length ≤ 9223372036854775807 := own_len HL.out
      have HLl := Lib.hid hLl
      clear hLl
      go_loop [9, 10] (fun v9 v10 => ∃ (k : Nat), k ≤ L.length ∧ v10 = .int .i64 k ∧ v9 = .int .i64 ((Pm.bares (L.take k) : Nat) : Int)) (fun _ v10 => L.length - (intOf v10).toNat)
      case atStart => exact ⟨0, by omega, rfl, rfl⟩
      case round =>
        obtain ⟨k, hk, rfl, rfl⟩ := hrel
        by_cases hlt : k < L.length
        · have hlt' : (k : Int) < (L.length : Int) := by omega
          obtain ⟨g, rfl⟩ := row_some HL.out (by omega)
          have q1 : w3.cell? ⟨g, k, none⟩ = some (.string ⟨L[k].toArray⟩) := by
            refine (HL.out.cellAt _ (by omega)).trans ?_
            rw [List.getElem?_map, List.getElem?_eq_getElem hlt]; rfl
          have z := HLl.out L[k] (List.getElem_mem hlt)
          have hbt := bares_take L k hlt
          have hbl := bares_le (L.take k)
          rw [List.length_take] at hbl
          generalize L[k] = x at *
          by_cases h5 : 5 ≤ x.length
          · have h5' : (5 : Int) ≤ (x.length : Int) := by omega
            have hq := bare_test x h5
            cases hb : Pm.bare x with
            | true =>
              rw [hb] at hq hbt
              have HBT := Lib.hid hbt
              clear hbt hb
              go_wp2
              go_round
              case rel => exact ⟨k + 1, by omega, by go_num, congrArg (Value.int .i64) (by rw [HBT.out]; simp)⟩
              case measure => simp [intOf]; omega
            | false =>
              rw [hb] at hq hbt
              have HBT := Lib.hid hbt
              clear hbt hb
              go_wp2
              go_round
              case rel => exact ⟨k + 1, by omega, by go_num, by rw [HBT.out]; rfl⟩
              case measure => simp [intOf]; omega
          · have h5' : ¬ (5 : Int) ≤ (x.length : Int) := by omega
            have hb : Pm.bare x = false := by
              rw [Bool.eq_false_iff]; intro e; exact h5 (Pm.bare_len x e)
            rw [hb] at hbt
            have HBT := Lib.hid hbt
            clear hbt hb
            go_wp2
            go_round
            case rel => exact ⟨k + 1, by omega, by go_num, by rw [HBT.out]; rfl⟩
            case measure => simp [intOf]; omega
        · have hke : k = L.length := by omega
          subst hke
          rw [List.take_length]
          clear HLl
          have hdn : ds.length ≤ 9223372036854775807 := own_len HD3.out
          go_wp2
          go_loopw [11, 12] (fun v11 v12 wr => ∃ (k m : Nat), k ≤ ds.length ∧ v12 = .int .i64 k ∧ v11 = .int .i64 ((Pm.quotes (ds.take k) : Nat) : Int) ∧ wr = w3.drewN m) (fun _ v12 _ => ds.length - (intOf v12).toNat)
          case atStart => exact ⟨0, 0, by omega, rfl, rfl, rfl⟩
          case round =>
            obtain ⟨k, n, hk, rfl, rfl, rfl⟩ := hrel
            by_cases hlt : k < ds.length
            · have hlt' : (k : Int) < (ds.length : Int) := by omega
              obtain ⟨g, rfl⟩ := row_some HD3.out (by omega)
              have q1 : w3.cell? ⟨g, k * 2 + 1, none⟩ = some (.int .i64 ds[k].at_) := (HD3.out.cellAt _ (by omega)).trans (damCells_at ds k hlt)
              have q2 : w3.cell? ⟨g, k * 2, none⟩ = some (.int .i64 ds[k].kind) := (HD3.out.cellAt _ (by omega)).trans (damCells_kind ds k hlt)
              obtain ⟨f1, f2, f3, f4⟩ := F3.out ds[k] (List.getElem_mem hlt)
              rw [← hsz.out] at f4
              have hqt := quotes_take ds k hlt
              have hql := quotes_le (ds.take k)
              rw [List.length_take] at hql
              have n1 : ¬ ds[k].at_ < 0 := by omega
              have n2 : ¬ (s.size : Int) < ds[k].at_ := by omega
              have n3 : ¬ ds[k].kind ≤ 0 := by omega
              have n4 : ¬ 6 ≤ ds[k].kind := by omega
              have d1 : decide (ds[k].at_ < 0) = false := by simpa using n1
              have d2 : decide ((s.size : Int) < ds[k].at_) = false := by simpa using n2
              have d3 : decide (ds[k].kind ≤ 0) = false := by simpa using n3
              have d4 : decide (6 ≤ ds[k].kind) = false := by simpa using n4
              cases k with
              | zero =>
                have q0 : ((Pm.quotes [] : Nat) : Int) = 0 := rfl
                generalize ds[0].at_ = a at *
                generalize ds[0].kind = b at *
                by_cases h5 : b = 5
                · have hqt' := Lib.hid hqt
                  clear hqt
                  go_wp2
                  go_quiet (fail)
                  go_wp2
                  go_roundw
                  case rel => exact ⟨1, _, by omega, by go_num, congrArg (Value.int .i64) (by rw [hqt'.out, if_pos h5]; simp [Pm.quotes]), rfl⟩
                  case measure => simp [intOf]; omega
                · have hqt' := Lib.hid hqt
                  clear hqt
                  go_wp2
                  go_quiet (fail)
                  go_wp2
                  go_roundw
                  case rel => exact ⟨1, _, by omega, by go_num, congrArg (Value.int .i64) (by rw [hqt'.out, if_neg h5]; simp [Pm.quotes]), rfl⟩
                  case measure => simp [intOf]; omega
              | succ j =>
                have q3 : w3.cell? ⟨g, j * 2 + 1, none⟩ = some (.int .i64 ds[j].at_) := (HD3.out.cellAt _ (by omega)).trans (damCells_at ds j (by omega))
                have n5 : ¬ ds[j + 1].at_ < ds[j].at_ := by
                  have := List.pairwise_iff_getElem.1 F4.out j (j + 1) (by omega) hlt (by omega); omega
                have d5 : decide (ds[j + 1].at_ < ds[j].at_) = false := by simpa using n5
                generalize ds[j + 1].at_ = a at *
                generalize ds[j + 1].kind = b at *
                generalize ds[j].at_ = c at *
                have w1' : IntKind.i64.wrap ((j : Int) + 1 - 1) = (j : Int) := by rw [IntWalk.i64_in _ (by omega)]; omega
                have w2' : IntKind.i64.wrap (j : Int) = (j : Int) := by rw [IntWalk.i64_in _ (by omega)]
                have g1 : (0 : Int) < (j : Int) + 1 := by omega
                by_cases h5 : b = 5
                · have hqt' := Lib.hid hqt
                  clear hqt
                  go_wp2
                  go_quiet (fail)
                  go_wp2
                  go_roundw
                  case rel => exact ⟨j + 1 + 1, _, by omega, by go_num, congrArg (Value.int .i64) (by rw [hqt'.out, if_pos h5]; simp), rfl⟩
                  case measure => simp [intOf]; omega
                · have hqt' := Lib.hid hqt
                  clear hqt
                  go_wp2
                  go_quiet (fail)
                  go_wp2
                  go_roundw
                  case rel => exact ⟨j + 1 + 1, _, by omega, by go_num, congrArg (Value.int .i64) (by rw [hqt'.out, if_neg h5]; simp), rfl⟩
                  case measure => simp [intOf]; omega
            · have hke : k = ds.length := by omega
              subst hke
              rw [List.take_length]
              have f2 := F2.out
              have w4 : IntKind.i64.wrap ((es.length : Int) + ((Pm.quotes ds : Nat) : Int)) = ((Pm.bares L : Nat) : Int) := by
                have := bares_le L
                rw [IntWalk.i64_in _ (by omega)]; omega
              have HBn := Lib.hid (below_drewN HB4.out n)
              by_cases hb : Pm.bares L = 0
              · obtain ⟨k1, k2, k3⟩ := F5.out hb
                subst k1
                by_cases hs0 : s.data.toList = []
                · have hse : s = ⟨#[]⟩ := by
                    obtain ⟨⟨l⟩⟩ := s; simp at hs0; subst hs0; rfl
                  have k4 := k2 hs0
                  subst k4
                  have w5 : IntKind.i64.wrap (0 + ((Pm.quotes [] : Nat) : Int)) = 0 := by rw [IntWalk.i64_in _ (by decide)]; rfl
                  have q0 : ((Pm.quotes [] : Nat) : Int) = 0 := rfl
                  have z1 : min (1 : Int) 0 = 0 := rfl
                  rw [hb]
                  subst hse
                  clear f2 k2 k3 hs0 hb w4
                  go_wp2
                  go_ret
                  exact ⟨rfl, HBn.out⟩
                · have k4 := k3 hs0
                  subst k4
                  have w5 : IntKind.i64.wrap (0 + ((Pm.quotes [⟨1, 0⟩] : Nat) : Int)) = 0 := by rw [IntWalk.i64_in _ (by decide)]; rfl
                  have q0 : ((Pm.quotes [⟨1, 0⟩] : Nat) : Int) = 0 := rfl
                  have hs1 : 0 < s.size := by
                    rw [hsz.out]; exact List.length_pos_iff.2 hs0
                  have z1 : min (1 : Int) (s.size : Int) = 1 := by omega
                  obtain ⟨g, rfl⟩ := row_some HD3.out (by decide)
                  have c0 : w3.cell? ⟨g, 0, none⟩ = some (.int .i64 1) := (HD3.out.cellAt 0 (by decide)).trans rfl
                  have hse : (s.toList == []) = false := by
                    rw [Lib.toList_data]; simpa using hs0
                  rw [hb]
                  clear f2 k2 k3 hs0 hb w4
                  go_wp2
                  go_ret
                  exact ⟨rfl, HBn.out⟩
              · have hb' : 0 < ((Pm.bares L : Nat) : Int) := by omega
                go_wp2
                go_ret
                exact ⟨rfl, HBn.out⟩
end Go.Proofs.YtbhhaehdoiaihaaDoor
