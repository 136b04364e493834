/- text.Fields: a range over the iterator text.words. -/
import Derived.RangeFuncBox
import Derived.RangeFuncLeaves
import Derived.Shelf.Abstract
import Derived.WalkKit
import Derived.OwnWalkIn
import Derived.TacticsInMore
import Derived.LoopNIn
import Derived.LoopIn
import Derived.Maps.AppendAt
import Derived.Maps.OwnIn
import Derived.Test.YtbhhaehdoiaihaaGreatDoorWc
namespace Go.Proofs.YtbhhaehdoiaihaaGreatDoor
open Go.RowKit Go.Shelf

attribute [local go_sem] Oper.semAt_some

def bs (l : Pm.Bs) : ByteArray := ⟨l.toArray⟩
abbrev strV (l : Pm.Bs) : Value := .string ⟨l.toArray⟩

theorem white_byte (c : UInt8) (w : World) :
    Calls Tryz.prog 111 #[.int .u8 c.toNat] w fun e w' => e = .returned (.bool (Pm.isWhite c)) ∧ w = w' := by
  have h := white_any c.toNat w
  rw [Pm.whiteI_of] at h
  exact h

/-- What a round of the loop keeps: the iterator's box. -/
def SameBox (Bn : Nat) (W W' : World) : Prop := W'.cell? ⟨Bn, 0, none⟩ = W.cell? ⟨Bn, 0, none⟩

theorem take_more (l : Pm.Bs) (k j : Nat) (hk : k ≤ j) (hj : j < l.length) (hw : Pm.isWhite l[j] = false)
    (h : (l.drop k).takeWhile (! Pm.isWhite ·) = (l.drop k).take (j - k) ++ (l.drop j).takeWhile (! Pm.isWhite ·)) :
    (l.drop k).takeWhile (! Pm.isWhite ·) = (l.drop k).take (j + 1 - k) ++ (l.drop (j + 1)).takeWhile (! Pm.isWhite ·) := by
  rw [h, List.drop_eq_getElem_cons hj, List.takeWhile_cons_of_pos (by simp [hw])]
  have e : j + 1 - k = (j - k) + 1 := by omega
  rw [e, List.take_succ_eq_append_getElem (by rw [List.length_drop]; omega)]
  simp only [List.getElem_drop, List.append_assoc, List.singleton_append]
  congr 3
  omega
theorem take_stop (l : Pm.Bs) (k j : Nat) (hs : j = l.length ∨ ∃ h : j < l.length, Pm.isWhite l[j] = true)
    (h : (l.drop k).takeWhile (! Pm.isWhite ·) = (l.drop k).take (j - k) ++ (l.drop j).takeWhile (! Pm.isWhite ·)) :
    (l.drop k).takeWhile (! Pm.isWhite ·) = (l.drop k).take (j - k) := by
  have e : (l.drop j).takeWhile (! Pm.isWhite ·) = [] := by
    rcases hs with rfl | ⟨hl, hw⟩
    · simp
    · rw [List.drop_eq_getElem_cons hl, List.takeWhile_cons_of_neg (by simp [hw])]
  rw [h, e, List.append_nil]
theorem drop_stop (l : Pm.Bs) (k j : Nat) (hk : k ≤ j) (_hj : j ≤ l.length) (h : (l.drop k).takeWhile (! Pm.isWhite ·) = (l.drop k).take (j - k)) :
    (l.drop k).dropWhile (! Pm.isWhite ·) = l.drop j := by
  have e := List.takeWhile_append_dropWhile (p := (! Pm.isWhite ·)) (l := l.drop k)
  have e2 := List.take_append_drop (j - k) (l.drop k)
  rw [h] at e
  have e3 := List.append_cancel_left (e.trans e2.symm)
  rw [e3, List.drop_drop]
  congr 1; omega

set_option maxRecDepth 100000 in
set_option maxHeartbeats 2000000 in
theorem words1_in (l Bn : Nat) (s : ByteArray) (hs : s.size ≤ 4294967280) (J Jx : List Pm.Bs → World → Prop)
    (hY : ∀ pre x W, J pre W → pre.length < (Pm.fields s.data.toList).length → YieldAt Fence.wide (2 - 1) Tryz.prog l #[strV x] W fun e W' =>
      (e = .returned (.bool true) ∧ J (pre ++ [x]) W' ∧ SameBox Bn W W') ∨ (e = .returned (.bool false) ∧ Jx (pre ++ [x]) W'))
    (W : World) (hBn : W.cell? ⟨Bn, 0, none⟩ = some (.string s)) (h0 : J [] W) :
    CallsIn Fence.wide 2 Tryz.prog 110 #[.func (.yield l) #[] #[], .pointer (some ⟨Bn, 0, none⟩)] W fun e W' => (∃ v, e = .returned v) ∧
      ((∃ ys, ys = Pm.fields s.data.toList ∧ J ys W') ∨ (∃ pre, pre <+: Pm.fields s.data.toList ∧ Jx pre W')) := by
  have hsz := Lib.hid (Lib.size_eq s)
  refine callsIn_of_wp Tryz.func110 rfl trivial ?_ rfl
  simp only [Tryz.ntmps110, List.size_toArray, List.length_cons, List.length_nil, Nat.reduceAdd, Nat.reduceSub, Array.replicate_succ, Array.replicate_zero, List.push_toArray, List.append_toArray, List.nil_append, List.cons_append]
  gi_wp2
  gi_loopw [3] (fun i wr => ∃ (k : Nat) (pre : List Pm.Bs), i = .int .i64 k ∧ k ≤ s.size ∧ Pm.fields s.data.toList = pre ++ Pm.fields (s.data.toList.drop k) ∧ wr.cell? ⟨Bn, 0, none⟩ = some (.string s) ∧ J pre wr)
    (fun i _ => s.size - (intOf i).toNat)
  case atStart => exact ⟨0, [], rfl, by omega, by simp, hBn, h0⟩
  case round =>
    obtain ⟨k, pre, rfl, hk, hx, hc, hJ⟩ := hrel
    have HX := Lib.hid hx
    clear hx
    by_cases hlt : k < s.size
    · have hkl : k < s.data.toList.length := by rw [← hsz.out]; exact hlt
      have hlt' : (k : Int) < (s.size : Int) := by omega
      have hdr := List.drop_eq_getElem_cons hkl
      have HDR := Lib.hid hdr
      clear hdr
      by_cases hw : Pm.isWhite s[k] = true
      · have hwc : Hid (Calls Tryz.prog 111 #[.int .u8 s[k].toNat] wr fun e w' => e = .returned (.bool true) ∧ wr = w') :=
          (white_byte s[k] wr).mono fun e w' ⟨a, b⟩ => ⟨by rw [a, hw], b⟩
        have HF : Hid (Pm.fields (s.data.toList.drop k) = Pm.fields (s.data.toList.drop (k + 1))) := by
          rw [HDR.out]; exact Pm.fields_white _ _ hw
        clear hw
        gi_wp2_with (refine ⟨trivial, ?_⟩; gi_at_call 111; refine (callsIn_wide.2 hwc.out).mono ?_; rintro e w' ⟨rfl, rfl⟩)
        go_roundw
        case rel => exact ⟨k + 1, pre, by go_num, by omega, by rw [HX.out, HF.out], hc, hJ⟩
        case measure => simp [intOf]; omega
      · have hw' : Pm.isWhite s[k] = false := by simpa using hw
        have hwc : Hid (Calls Tryz.prog 111 #[.int .u8 s[k].toNat] wr fun e w' => e = .returned (.bool false) ∧ wr = w') :=
          (white_byte s[k] wr).mono fun e w' ⟨a, b⟩ => ⟨by rw [a, hw'], b⟩
        have HW := Lib.hid hw'
        clear hw hw'
        gi_wp2_with (refine ⟨trivial, ?_⟩; gi_at_call 111; refine (callsIn_wide.2 hwc.out).mono ?_; rintro e w' ⟨rfl, rfl⟩)
        obtain ⟨wo, hwo⟩ : ∃ wo : World, wo = wr := ⟨_, rfl⟩
        subst hwo
        gi_loop [3] (fun i => ∃ j : Nat, i = .int .i64 j ∧ k ≤ j ∧ j ≤ s.size ∧ (j = k → k < s.size) ∧ (s.data.toList.drop k).takeWhile (! Pm.isWhite ·) = (s.data.toList.drop k).take (j - k) ++ (s.data.toList.drop j).takeWhile (! Pm.isWhite ·))
          (fun i => s.size - (intOf i).toNat)
        case atStart => exact ⟨k, rfl, by omega, by omega, fun _ => hlt, by simp⟩
        case round =>
          obtain ⟨j, rfl, hkj, hj, _, ht⟩ := hrel
          have HT := Lib.hid ht
          clear ht
          by_cases hjl : j < s.size
          · have hjl' : (j : Int) < (s.size : Int) := by omega
            have hjk : j < s.data.toList.length := by rw [← hsz.out]; exact hjl
            by_cases hv : Pm.isWhite s[j] = true
            · have hwc2 : Hid (Calls Tryz.prog 111 #[.int .u8 s[j].toNat] wo fun e w' => e = .returned (.bool true) ∧ wo = w') :=
                (white_byte s[j] wo).mono fun e w' ⟨a, b⟩ => ⟨by rw [a, hv], b⟩
              have hkj' : k < j := by
                rcases Nat.lt_or_ge k j with h | h
                · exact h
                · obtain rfl : j = k := by omega
                  rw [HW.out] at hv; cases hv
              have HS := Lib.hid (take_stop s.data.toList k j (.inr ⟨hjk, hv⟩) HT.out)
              clear hv
              have hxl : Hid (Pm.fields (s.data.toList.drop k) = (s.data.toList.drop k).take (j - k) ::  Pm.fields (s.data.toList.drop j)) := by
                show _ = _
                rw [HDR.out, Pm.fields_word _ _ (show Pm.isWhite s.data.toList[k] = false from HW.out), ← HDR.out, HS.out, drop_stop s.data.toList k j (by omega) (by rw [← hsz.out]; omega) HS.out]
              have hlen : pre.length < (Pm.fields s.data.toList).length := by rw [HX.out, hxl.out]; simp
              obtain ⟨fn, tmps, assign, body, hy, hR⟩ := hY pre ((s.data.toList.drop k).take (j - k)) wo hJ hlen
              have hR' := Lib.hid hR
              clear hR hlen
              rw [show strV ((s.data.toList.drop k).take (j - k)) = Value.string (s.extract k j) by unfold strV; rw [← Lib.extract_eq]] at hy
              gi_wp2_with (refine ⟨trivial, ?_⟩; gi_at_call 111; refine (callsIn_wide.2 hwc2.out).mono ?_; rintro e w' ⟨rfl, rfl⟩)
              refine hR'.out.mono ?_
              rintro e W3 (⟨rfl, hJ3, hk3⟩ | ⟨rfl, hJx3⟩)
              · gi_wp2
                go_roundw
                case rel => exact ⟨j, pre ++ [(s.data.toList.drop k).take (j - k)], rfl, by omega, by rw [HX.out, hxl.out]; simp, Eq.trans hk3 hc, hJ3⟩
                case measure => simp [intOf]; omega
              · gi_wp2
                refine bodyPost_ret (results_none rfl _ _ _) rfl ?_
                exact ⟨⟨_, rfl⟩, .inr ⟨pre ++ [(s.data.toList.drop k).take (j - k)], ⟨Pm.fields (s.data.toList.drop j), by rw [HX.out, hxl.out]; simp⟩, hJx3⟩⟩
            · have hv' : Pm.isWhite s[j] = false := by simpa using hv
              have hwc2 : Hid (Calls Tryz.prog 111 #[.int .u8 s[j].toNat] wo fun e w' => e = .returned (.bool false) ∧ wo = w') :=
                (white_byte s[j] wo).mono fun e w' ⟨a, b⟩ => ⟨by rw [a, hv'], b⟩
              have HM := Lib.hid (take_more s.data.toList k j hkj hjk hv' HT.out)
              clear hv hv'
              gi_wp2_with (refine ⟨trivial, ?_⟩; gi_at_call 111; refine (callsIn_wide.2 hwc2.out).mono ?_; rintro e w' ⟨rfl, rfl⟩)
              go_round
              case rel => exact ⟨j + 1, by go_num, by omega, by omega, fun _ => hlt, HM.out⟩
              case measure => simp [intOf]; omega
          · have hkj' : k < j := by omega
            have HS := Lib.hid (take_stop s.data.toList k j (.inl (by rw [← hsz.out]; omega)) HT.out)
            have hxl : Hid (Pm.fields (s.data.toList.drop k) = (s.data.toList.drop k).take (j - k) ::  Pm.fields (s.data.toList.drop j)) := by
              show _ = _
              rw [HDR.out, Pm.fields_word _ _ (show Pm.isWhite s.data.toList[k] = false from HW.out), ← HDR.out, HS.out, drop_stop s.data.toList k j (by omega) (by rw [← hsz.out]; omega) HS.out]
            have hlen : pre.length < (Pm.fields s.data.toList).length := by rw [HX.out, hxl.out]; simp
            obtain ⟨fn, tmps, assign, body, hy, hR⟩ := hY pre ((s.data.toList.drop k).take (j - k)) wo hJ hlen
            have hR' := Lib.hid hR
            clear hR hlen
            rw [show strV ((s.data.toList.drop k).take (j - k)) = Value.string (s.extract k j) by unfold strV; rw [← Lib.extract_eq]] at hy
            gi_wp2
            refine ⟨trivial, ?_⟩
            gi_wp2
            refine hR'.out.mono ?_
            rintro e W3 (⟨rfl, hJ3, hk3⟩ | ⟨rfl, hJx3⟩)
            · gi_wp2
              go_roundw
              case rel => exact ⟨j, pre ++ [(s.data.toList.drop k).take (j - k)], rfl, by omega, by rw [HX.out, hxl.out]; simp, Eq.trans hk3 hc, hJ3⟩
              case measure => simp [intOf]; omega
            · gi_wp2
              refine bodyPost_ret (results_none rfl _ _ _) rfl ?_
              exact ⟨⟨_, rfl⟩, .inr ⟨pre ++ [(s.data.toList.drop k).take (j - k)], ⟨Pm.fields (s.data.toList.drop j), by rw [HX.out, hxl.out]; simp⟩, hJx3⟩⟩
    · have hke : k = s.size := by omega
      gi_wp2
      go_end0
      refine ⟨⟨_, rfl⟩, .inl ⟨pre, ?_, hJ⟩⟩
      rw [HX.out, hke, hsz.out, List.drop_length, Pm.fields_nil, List.append_nil]

theorem words_in (s : ByteArray) (w : World) :
    CallsIn Fence.wide 2 Tryz.prog 91 #[.string s] w fun e w' => e = .returned (.func (.func 110) #[] #[.pointer (some ⟨w.heap.size, 0, none⟩)]) ∧ w' = w.alloc (.cells #[.string s] 9) := by
  refine callsIn_of_wp Tryz.func91 rfl trivial ?_ rfl
  simp only [Tryz.ntmps91, List.size_toArray, List.length_cons, List.length_nil, Nat.reduceAdd, Nat.reduceSub, Array.replicate_succ, Array.replicate_zero, List.push_toArray, List.append_toArray, List.nil_append, List.cons_append]
  gi_wp2
  go_ret
  exact ⟨rfl, rfl⟩

theorem words_stops (Bn : Nat) (s : ByteArray) (hs : s.size ≤ 4294967280) (w : World) (hBn : Bn < w.heap.size)
    (hc : w.cell? ⟨Bn, 0, none⟩ = some (.string s)) :
    SeqStopsK Fence.wide 2 Tryz.prog 110 #[.pointer (some ⟨Bn, 0, none⟩)] (fun x : Pm.Bs => #[strV x]) (SameBox Bn) (fun ys => ys = Pm.fields s.data.toList) (fun pre => pre <+: Pm.fields s.data.toList) (Pm.fields s.data.toList).length w := fun l J Jx W hW _ _ hY h0 =>
  words1_in l Bn s hs J Jx hY W ((hW.cell (p := ⟨Bn, 0, none⟩) hBn).trans hc) h0

theorem info_str : (Tryz.prog.info? 9).map (fun i => (i.zero, i.size, i.bytes)) = some (some (.string .empty), 1, 16) := by kernel_rfl

theorem fields_le (l : Pm.Bs) : (Pm.fields l).length ≤ l.length := by
  suffices h : ∀ f (l : Pm.Bs), l.length ≤ f → (Pm.words f l).length ≤ f by
    have := h l.length l (Nat.le_refl _)
    exact this
  intro f
  induction f with
  | zero => intro l _; simp [Pm.words]
  | succ f ih =>
    intro l hl
    unfold Pm.words
    have hle : (l.dropWhile Pm.isWhite).length ≤ l.length := List.dropWhile_sublist _ |>.length_le
    split
    · simp
    · next c r e =>
      have hnw : Pm.isWhite c = false := by
        have := List.head?_dropWhile_not Pm.isWhite l
        rw [e] at this; simpa using this
      have h1 : ((c :: r).dropWhile (! Pm.isWhite ·)).length ≤ r.length := by
        rw [List.dropWhile_cons_of_pos (by simp [hnw])]
        exact List.dropWhile_sublist _ |>.length_le
      rw [e] at hle
      simp only [List.length_cons] at hle
      have := ih _ (show ((c :: r).dropWhile (! Pm.isWhite ·)).length ≤ f by omega)
      simp only [List.length_cons]; omega

def FieldsPost (l : Pm.Bs) (w : World) (e : Ending) (w' : World) : Prop :=
  ∃ v, e = .returned v ∧ w'.ownsRow w.heap.size 9 1 v (Pm.fields l).length ((Pm.fields l).map strV) ∧ Below w.heap.size w w'

set_option maxRecDepth 100000 in
set_option maxHeartbeats 2000000 in
theorem fields_in (s : ByteArray) (hs : s.size ≤ 4294967280) (w : World) :
    CallsIn Fence.wide 3 Tryz.prog 65 #[.string s] w (FieldsPost s.data.toList w) := by
  obtain ⟨i0, hi, hz0, hz1, hz2⟩ := info_parts info_str
  have hfl := fields_le s.data.toList
  rw [← Lib.size_eq] at hfl
  refine callsIn_of_wp_marks Tryz.func65 rfl trivial ?_ rfl
  simp only [Tryz.ntmps65, List.size_toArray, List.length_cons, List.length_nil, Nat.reduceAdd, Nat.reduceSub, Array.replicate_succ, Array.replicate_zero, List.push_toArray, List.append_toArray, List.nil_append, List.cons_append]
  gi_wp2_with (refine ⟨trivial, ?_⟩; gi_at_call 91; refine (words_in _ _).mono ?_; rintro e w' ⟨rfl, rfl⟩)
  have bO := Boxed.new w 42 (.slice none 0 0)
  have bN := Boxed.new (w.alloc (.cells #[.slice none 0 0] 42)) 9 (.string s)
  rw [World.size_alloc] at bN
  have hB0 : Below w.heap.size w ((w.alloc (.cells #[.slice none 0 0] 42)).alloc (.cells #[.string s] 9)) := ((Below.refl _ w).alloc (Nat.le_refl _) _).alloc (by simp) _
  have h13 : 1 ≤ 3 := by omega
  refine wpIn_rangeFunc_ownG (n := 3) rfl h13 (gf := 110) (lb := #[.pointer (some ⟨w.heap.size + 1, 0, none⟩)]) rfl trivial (enters_of Tryz.func110 (by kernel_rfl) rfl)
    (words_stops (w.heap.size + 1) s hs _ (by simp) bN.cell) (fun h k => Eq.trans k h) (fun W l o o' hl _ _ _ => World.cell?_of_block (World.putObj_heap_other (by simp at hl; show w.heap.size + 1 ≠ l; omega))) (Below.refl _ _) (fun _ => rfl)
    (fun pre W => (∃ v, Boxed W w.heap.size 42 v ∧ W.ownsRow w.heap.size 9 1 v pre.length (pre.map strV) ∧ v.ownBlock ≠ some (w.heap.size + 1)) ∧ (Below w.heap.size w W ∧ w.heap.size + 2 ≤ W.heap.size))
    (fun _ _ _ => False)
    (OwnFrom.and (Own.from (holdsRow_own w.heap.size w.heap.size 42 9 1 (fun pre : List Pm.Bs => pre.length) (fun pre : List Pm.Bs => pre.map strV) (fun _ v => v.ownBlock ≠ some (w.heap.size + 1))) _) (OwnFrom.and (ownFrom_below (Nat.le_refl _) (by simp; omega)) (fun _ _ _ _ hs hg _ => Nat.le_trans hs hg.size)))
    (fun _ _ _ _ _ hs _ _ => hs)
    ⟨⟨_, bO.alloc _, World.ownsRow_nil _ _ _ _, by simp [Value.ownBlock]⟩, hB0, by simp⟩
    (fun x => { tmps := #[.string s, undef, .slice none 0 0,   .pointer (some ⟨w.heap.size, 0, none⟩), .string ⟨x.toArray⟩, .string s, .func (.func 110) #[] #[.pointer (some ⟨w.heap.size + 1, 0, none⟩)], .string ⟨x.toArray⟩, undef, undef, undef, undef, undef], defers := [] }) ?assign ?body ?done ?stop
  case assign =>
    intro l x W K hK
    gi_wp2
    exact hK
  case body =>
    rintro l pre x W ⟨⟨v, hv, hrow, hne⟩, hB, hsz⟩ hlt
    have hc := hv.cell
    have HNE := Lib.hid hne
    clear hne
    gi_wp2_with (gi_at_builtin; refine wpListIn_append_own_at _ rfl _ _ 42 rfl w.heap.size 9 i0 (.string .empty) 1 16 Tryz.underlying42 hi hz0 hz1 hz2 rfl (by decide) _ _ _ rfl (hrow.alloc _) ⟨W.heap.size, 0, none⟩ 1 1 [.string ⟨x.toArray⟩] rfl rfl (cell_one_new _ _ _) (by simp [Value.oneCell']) (by simp only [maxLen]; omega) (by omega) (by have := hB.size; simp; omega) ?_; intro v' w1 hown' hgrow _ hat; obtain ⟨g', cap', rfl⟩ := ownsRow_succ hown'; obtain ⟨hv1, hv2, hr2, hk2, hb2⟩ := hv.appended (by decide) hrow hB.size (Nat.le_refl _) hown' hgrow; have hc1 := hv1.cell; have hf1 := hv1.frozen; have HAT := Lib.hid hat; clear hat)
    have hbox : SameBox (w.heap.size + 1) W (w1.setCell { block := w.heap.size, off := 0 } (Value.slice (some { block := g', off := 0 }) (pre.length + 1) cap')) := by
      show World.cell? _ _ = _
      rw [World.cell?_setCell_other _ _ _ _ (by simp)]
      exact (World.cell?_of_block (hgrow.block (w.heap.size + 1) (by simp; omega) (fun e => HNE.out e.symm))).trans (World.cell?_alloc_lt _ _ _ (by simp; omega))
    refine ⟨hk2.from _, hbox, ⟨_, hv2, by simpa using hr2, ?_⟩, hB.trans hb2, Nat.le_trans hsz hk2.size⟩
    rcases HAT.out with e | e
    · rw [e]; exact HNE.out
    · rw [e]; simp; omega
  case done =>
    rintro D ys W hD rfl ⟨⟨v, hv, hrow, _⟩, hB, _⟩ hK
    have hc := hv.cell
    gi_wp2
    refine ⟨by simp, .inl ⟨_, _, rfl, run_takeDeferred hK, ?_⟩⟩
    exact ⟨_, results_tmp rfl _ _ _, v, rfl, ownsRow_putObj hrow _ hK rfl, hB.trans (belowK_b (w := w) (Nat.le_refl _) W D _ _ (by simp at hD; omega) hK rfl rfl)⟩
  case stop =>
    rintro D c pre W _ _ h _
    exact h.elim

end Go.Proofs.YtbhhaehdoiaihaaGreatDoor
