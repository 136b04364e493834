/- The walk of mbox.Write. -/
import Derived.Test.YtbhhaehdoiaihaaGreatDoorZc
import Derived.Test.YtbhhaehdoiaihaaGreatDoorQa
namespace Go.Proofs.YtbhhaehdoiaihaaGreatDoor
open Go.RowKit

theorem asc_len (ms : Int) : (Pm.asctime ms).length ≤ 24 := by
  cases hv : Pm.isTime ms with
  | false => rw [asctime_no hv]; simp
  | true =>
    have h0 : 0 ≤ ms ∧ ms ≤ 70368744177664 := by unfold Pm.isTime Pm.maxTime at hv; simpa using hv
    obtain ⟨y, m, d, hc⟩ := Pm.civ_exists (ms / Pm.dayMs) (by unfold Pm.dayMs; omega) (by unfold Pm.dayMs; omega)
    rw [asctime_eq hv hc]
    obtain ⟨c1, c2, c3, c4, c5, c6, _⟩ := hc
    have c7 := (daysOf_bd y m).2
    unfold Pm.ascOf Pm.weekday
    simp only [List.length_append, List.length_cons, List.length_nil]
    rw [dayName_len, monthName_len, padded2 d 32 (by omega) (by omega), clock_len, padded4 y 48 (by omega) (by omega)]
    omega
theorem mark_len (l : Pm.Bs) : (Pm.mark l).length ≤ l.length + 1 := by unfold Pm.mark; split <;> simp
theorem flat_mark_len (L : List Pm.Bs) (h : ∀ x ∈ L, x ≠ []) : (L.flatMap Pm.mark).length ≤ 2 * L.flatten.length := by
  induction L with
  | nil => simp
  | cons a L ih =>
    have h1 := mark_len a
    have h2 := List.length_pos_iff.2 (h a (by simp))
    have h3 := ih (fun x hx => h x (by simp [hx]))
    rw [List.flatMap_cons, List.flatten_cons, List.length_append, List.length_append]; omega
theorem writeOne_len (e : Pm.Ent) : (Pm.writeOne e).length ≤ e.sender.length + 2 * e.raw.length + 33 := by
  unfold Pm.writeOne Pm.fromB
  have h1 := asc_len e.date
  have h2 := flat_mark_len (Pm.lines e.raw) (Pm.lines_first e.raw)
  rw [Pm.lines_flatten] at h2
  have h3 : (if e.raw.isEmpty || Lib.hasSuffix e.raw [10] then [] else ([10] : Pm.Bs)).length ≤ 1 := by split <;> simp
  rw [List.length_append, List.length_append, List.length_append, List.length_append, List.length_append, List.length_append, List.length_append]
  simp only [List.length_cons, List.length_nil]
  omega
theorem write_take (es : List Pm.Ent) (k : Nat) (h : k < es.length) : Pm.write (es.take (k + 1)) = Pm.write (es.take k) ++ Pm.writeOne es[k] := by
  unfold Pm.write
  rw [List.take_succ_eq_append_getElem h, List.flatMap_append]; simp
theorem write_len (es : List Pm.Ent) (M : Nat) (h : ∀ x ∈ es, x.sender.length + 2 * x.raw.length + 33 ≤ M) : (Pm.write es).length ≤ es.length * M := by
  induction es with
  | nil => simp [Pm.write]
  | cons e es ih =>
    have h1 := ih (fun x hx => h x (by simp [hx]))
    have h2 := writeOne_len e
    have h3 := h e (by simp)
    unfold Pm.write at h1 ⊢
    rw [List.flatMap_cons, List.length_append, List.length_cons, Nat.succ_mul]; omega
theorem WS.byte' {w0 wr : World} {l : Pm.Bs} {E : Nat} {x : Pm.Ent} (h : WS w0 l E x wr) (c : UInt8) (z : Int) (hz : z = c.toNat) (hlen : l.length + 1 ≤ 140737488355328) :
    Calls Tryz.prog 35 #[.pointer (some ⟨w0.heap.size, 0, none⟩), .int .u8 z] wr fun e w' => e = .returned .nilIface ∧ WS w0 (l ++ [c]) E x w' := by
  subst hz; exact h.byte c hlen
theorem writeOne_some (x : Pm.Ent) (h : x.raw = [] ∨ Lib.hasSuffix x.raw [10] = true) : Pm.writeOne x = Pm.fromB ++ x.sender ++ [32] ++ Pm.asctime x.date ++ [10] ++ (Pm.lines x.raw).flatMap Pm.mark ++ [10] := by
  unfold Pm.writeOne
  have : (x.raw.isEmpty || Lib.hasSuffix x.raw [10]) = true := by
    rcases h with h | h
    · rw [h]; rfl
    · rw [h]; simp
  rw [if_pos this, List.append_nil]
theorem writeOne_none (x : Pm.Ent) (h1 : x.raw ≠ []) (h : Lib.hasSuffix x.raw [10] = false) : Pm.writeOne x = Pm.fromB ++ x.sender ++ [32] ++ Pm.asctime x.date ++ [10] ++ (Pm.lines x.raw).flatMap Pm.mark ++ [10] ++ [10] := by
  unfold Pm.writeOne
  have : (x.raw.isEmpty || Lib.hasSuffix x.raw [10]) = false := by
    rw [h]; simp [h1]
  rw [this]; rfl

set_option maxRecDepth 100000 in
set_option maxHeartbeats 6400000 in
theorem write_any (A : Option Addr) (c : Nat) (es : List Pm.Ent) (w : World) (ht : Tab w) (hE : EntS w A es) (hn : es.length ≤ 1000000) (hsz : ∀ x ∈ es, x.sender.length ≤ 1000000 ∧ x.raw.length ≤ 1000000) :
    Calls Tryz.prog 15 #[.slice A es.length c] w (StrPost (Pm.write es) w) := by
  have HE := Lib.hid hE
  have HT := Lib.hid ht
  have HZ := Lib.hid hsz
  have hlen := hE.1
  clear hE ht hsz
  unfold StrPost
  have HS0 := Lib.hid (WB.start w)
  go_enter Tryz.func15, Tryz.ntmps15
  go_wp2
  go_loopw [5, 6, 7, 10] (fun _ _ _ i wr => ∃ k : Nat, k ≤ es.length ∧ i = .int .i64 k ∧ WB w (Pm.write (es.take k)) wr) (fun _ _ _ i _ => es.length - (intOf i).toNat)
  case atStart => exact ⟨0, by omega, rfl, HS0.out⟩
  case round =>
    obtain ⟨k, hk, rfl, hwb⟩ := hrel
    have HWB := Lib.hid hwb
    clear hwb
    by_cases hlt : k < es.length
    · have hlt' : (k : Int) < (es.length : Int) := by omega
      obtain ⟨b, o, rfl, hat⟩ := (HE.out.up HWB.out.below).at_ (by omega)
      have q1 := hat.sender k hlt
      have q2 := hat.date k hlt
      have q3 := hat.raw k hlt
      obtain ⟨z1, z2⟩ := HZ.out es[k] (List.getElem_mem hlt)
      have hwt := Lib.hid (write_take es k hlt)
      have hwl := write_len (es.take k) 4000000 (fun x hx => by have := HZ.out x (List.mem_of_mem_take hx); omega)
      rw [List.length_take] at hwl
      have hal := asc_len es[k].date
      clear hat
      generalize es[k] = x at *
      have hP : (Pm.write (es.take k)).length ≤ 4000000000000 := by
        refine Nat.le_trans hwl ?_
        have : min k es.length ≤ 1000000 := by omega
        exact Nat.mul_le_mul_right 4000000 this
      clear hwl
      obtain ⟨wo, hwo⟩ : ∃ wo : World, wo = wr := ⟨_, rfl⟩
      subst hwo
      have S0 := Lib.hid (HWB.out.box x)
      have g0 := S0.out.c0
      have HTb := Lib.hid (fun (wq : World) (h : Below w.heap.size w wq) => HT.out.below h)
      generalize Pm.write (es.take k) = P at *
      go_wp2_with (first
        | (have _x := S5; go_at_call 35; refine (S5.out.byte' 10 10 rfl (by simp only [List.length_append, List.length_cons, List.length_nil]; omega)).mono ?_; rintro e w6 ⟨rfl, hS⟩; have S6 := Lib.hid hS; have g2 := hS.c2; clear hS)
        | (have _x := S4; go_at_call 34; refine (S4.out.str (Pm.asctime x.date) (by simp only [List.length_append, List.length_cons, List.length_nil]; omega)).mono ?_; rintro e w5 ⟨rfl, hS⟩; have S5 := Lib.hid hS; clear hS)
        | (have _x := S3; go_at_call 18; refine (S3.out.asc (HTb.out _ S3.out.wb.below)).mono ?_; rintro e w4 ⟨rfl, hS⟩; have S4 := Lib.hid hS; clear hS)
        | (have _x := S2; go_at_call 35; refine (S2.out.byte' 32 32 rfl (by simp only [List.length_append, List.length_cons, List.length_nil]; omega)).mono ?_; rintro e w3 ⟨rfl, hS⟩; have S3 := Lib.hid hS; have g1 := hS.c1; clear hS)
        | (have _x := S1; go_at_call 34; refine (S1.out.str x.sender (by simp only [List.length_append, List.length_cons, List.length_nil]; omega)).mono ?_; rintro e w2 ⟨rfl, hS⟩; have S2 := Lib.hid hS; clear hS)
        | (go_at_call 34; refine (S0.out.str [70, 114, 111, 109, 32] (by simp only [List.length_cons, List.length_nil]; omega)).mono ?_; rintro e w1 ⟨rfl, hS⟩; have S1 := Lib.hid hS; have g0 := hS.c0; clear hS))
      have hL0 : (P ++ [70, 114, 111, 109, 32] ++ x.sender ++ [32] ++ Pm.asctime x.date ++ [10]).length ≤ 4000002000000 := by
        simp only [List.length_append, List.length_cons, List.length_nil]; omega
      have hLL := Lib.hid (Eq.refl (P ++ [70, 114, 111, 109, 32] ++ x.sender ++ [32] ++ Pm.asctime x.date ++ [10]))
      generalize hLe : P ++ [70, 114, 111, 109, 32] ++ x.sender ++ [32] ++ Pm.asctime x.date ++ [10] = L0 at *
      have HLe := Lib.hid hLe
      clear hLe hLL S0 S1 S2 S3 S4 S5 g0 g1 q1 q2 q3 _x
      have hfm := flat_mark_len (Pm.lines x.raw) (Pm.lines_first x.raw)
      rw [Pm.lines_flatten] at hfm
      have hraw : ∀ l : Pm.Bs, x.raw = l → l.length ≤ 1000000 := by rintro l rfl; exact z2
      have HW1 := Lib.hid (writeOne_some x)
      have HW2 := Lib.hid (writeOne_none x)
      go_loopw [6, 7] (fun v6 _ wr => ∃ (l W : Pm.Bs), v6 = .string ⟨l.toArray⟩ ∧ l.length ≤ x.raw.length ∧ W ++ (Pm.lines l).flatMap Pm.mark = (Pm.lines x.raw).flatMap Pm.mark ∧ WS w (L0 ++ W) wo.heap.size x wr) (fun v6 _ _ => strLen v6)
      case atStart => exact ⟨x.raw, [], rfl, by omega, rfl, by rw [List.append_nil]; exact S6.out⟩
      case round =>
        obtain ⟨l, W, rfl, hl, hW, hS⟩ := hrel
        have HW := Lib.hid hW
        have T0 := Lib.hid hS
        have hWl : W.length ≤ 2000000 := by
          have := congrArg List.length hW
          rw [List.length_append] at this; omega
        have hLW : (L0 ++ W).length ≤ 4000004000000 := by rw [List.length_append]; omega
        clear hW hS
        cases l with
        | nil =>
          have hWe : Hid (W = (Pm.lines x.raw).flatMap Pm.mark) := Lib.hid (by have h := HW.out; rwa [show (Pm.lines []).flatMap Pm.mark = [] from rfl, List.append_nil] at h)
          have g2 := T0.out.c2
          have hbyte : Hid (∀ (l : Pm.Bs) (wq : World), l.length ≤ 4000004000001 → WS w l wo.heap.size x wq → Calls Tryz.prog 35 #[.pointer (some ⟨w.heap.size, 0, none⟩), .int .u8 10] wq fun e w' => e = .returned .nilIface ∧ WS w (l ++ [10]) wo.heap.size x w') :=
            Lib.hid fun l wq hlq h => h.byte' 10 10 rfl (by omega)
          have hsuf := Lib.hid (fun wq => Tryz.strings_HasSuffix ⟨x.raw.toArray⟩ ⟨#[10]⟩ wq (by rw [Lib.size_eq]; simp; omega))
          by_cases hr0 : x.raw = []
          · have hout : Hid (L0 ++ W ++ [10] = P ++ Pm.writeOne x) := Lib.hid (by rw [HW1.out (.inl hr0), ← HLe.out, hWe.out]; simp [Pm.fromB])
            rw [hr0] at g2
            clear hr0
            go_wp2_with (go_at_call 35; refine (hbyte.out _ _ (by omega) T0.out).mono ?_; rintro e w8 ⟨rfl, hS8⟩)
            go_roundw
            case rel => exact ⟨k + 1, by omega, by go_num, by rw [hwt.out, ← hout.out]; exact hS8.wb⟩
            case measure => simp [intOf]; omega
          · have hre : (x.raw == []) = false := by simpa using hr0
            cases hx : Lib.hasSuffix x.raw [10] with
            | true =>
              have hout : Hid (L0 ++ W ++ [10] = P ++ Pm.writeOne x) := Lib.hid (by rw [HW1.out (.inr hx), ← HLe.out, hWe.out]; simp [Pm.fromB])
              have HX := Lib.hid hx
              clear hx
              go_wp2_with (first
                | (go_at_call 32; refine (hsuf.out _).mono ?_; rintro e w' ⟨rfl, rfl⟩; rw [List.toList_toArray, HX.out])
                | (go_at_call 35; refine (hbyte.out _ _ (by omega) T0.out).mono ?_; rintro e w8 ⟨rfl, hS8⟩))
              go_roundw
              case rel => exact ⟨k + 1, by omega, by go_num, by rw [hwt.out, ← hout.out]; exact hS8.wb⟩
              case measure => simp [intOf]; omega
            | false =>
              have hout : Hid (L0 ++ W ++ [10] ++ [10] = P ++ Pm.writeOne x) := Lib.hid (by rw [HW2.out hr0 hx, ← HLe.out, hWe.out]; simp [Pm.fromB])
              have HX := Lib.hid hx
              clear hx
              go_wp2_with (first
                | (go_at_call 32; refine (hsuf.out _).mono ?_; rintro e w' ⟨rfl, rfl⟩; rw [List.toList_toArray, HX.out])
                | (have _x := hS8; go_at_call 35; refine (hbyte.out _ _ (by simp only [List.length_append, List.length_cons, List.length_nil] at hLW ⊢; omega) hS8).mono ?_; rintro e w9 ⟨rfl, hS9⟩)
                | (go_at_call 35; refine (hbyte.out _ _ (by omega) T0.out).mono ?_; rintro e w8 ⟨rfl, hS8⟩))
              go_roundw
              case rel => exact ⟨k + 1, by omega, by go_num, by rw [hwt.out, ← hout.out]; exact hS9.wb⟩
              case measure => simp [intOf]; omega
        | cons c r =>
          have hle := Pm.first_length (c :: r)
          have hpos := Pm.first_pos (c :: r) (by simp)
          have hlines := Lib.hid (Pm.lines_eq (c :: r) (by simp))
          have hsl : (⟨(c :: r).toArray⟩ : ByteArray).size ≤ 4294967280 := by rw [Lib.size_eq]; exact Nat.le_trans hl (by omega)
          have hf1 : Hid (∀ wq, Calls Tryz.prog 20 #[.string ⟨(c :: r).toArray⟩] wq fun e w' => e = .returned (.string ⟨(Pm.first (c :: r)).toArray⟩) ∧ wq = w') :=
            Lib.hid fun wq => first_any ⟨(c :: r).toArray⟩ hsl wq
          have hmk : Hid (∀ wq, Calls Tryz.prog 36 #[.string ⟨(Pm.first (c :: r)).toArray⟩] wq fun e w' => e = .returned (.bool (Pm.marked (Pm.first (c :: r)))) ∧ wq = w') :=
            Lib.hid fun wq => marked_any ⟨(Pm.first (c :: r)).toArray⟩ wq
          have hstr : Hid (∀ (l : Pm.Bs) (wq : World), l.length ≤ 4000004000001 → WS w l wo.heap.size x wq → Calls Tryz.prog 34 #[.pointer (some ⟨w.heap.size, 0, none⟩), .string ⟨(Pm.first (c :: r)).toArray⟩] wq fun e w' => e = .returned (.tuple #[.int .i64 (Pm.first (c :: r)).length, .nilIface]) ∧ WS w (l ++ Pm.first (c :: r)) wo.heap.size x w') :=
            Lib.hid fun l wq hlq h => h.str _ (by omega)
          have hbyte : Hid (Calls Tryz.prog 35 #[.pointer (some ⟨w.heap.size, 0, none⟩), .int .u8 62] wr fun e w' => e = .returned .nilIface ∧ WS w (L0 ++ W ++ [62]) wo.heap.size x w') :=
            Lib.hid (T0.out.byte' 62 62 rfl (by omega))
          have hmd : Hid (Pm.mark (Pm.first (c :: r)) = if Pm.marked (Pm.first (c :: r)) then 62 :: Pm.first (c :: r) else Pm.first (c :: r)) := Lib.hid rfl
          generalize Pm.first (c :: r) = f at *
          have hle' : f.length ≤ r.length + 1 := by simpa using hle
          have hl' : r.length + 1 ≤ x.raw.length := by simpa using hl
          clear hle hl hsl
          cases hmm : Pm.marked f with
          | true =>
            have HM := Lib.hid hmm
            have hmf : Hid (Pm.mark f = 62 :: f) := Lib.hid (by rw [hmd.out, hmm]; rfl)
            clear hmm hmd
            go_wp2_with (first
              | (go_at_call 20; refine (hf1.out _).mono ?_; rintro e w' ⟨rfl, rfl⟩)
              | (go_at_call 36; refine (hmk.out _).mono ?_; rintro e w' ⟨rfl, rfl⟩; rw [HM.out])
              | (go_at_call 35; refine (hbyte.out).mono ?_; rintro e w8 ⟨rfl, hS8⟩)
              | (go_at_call 34; refine (hstr.out _ _ (by rw [List.length_append]; simp only [List.length_cons, List.length_nil]; omega) hS8).mono ?_; rintro e w9 ⟨rfl, hS9⟩))
            go_roundw
            case rel =>
              refine ⟨(c :: r).drop f.length, W ++ Pm.mark f, str_drop _ _ _ (by simp), by simp; omega, by rw [← HW.out, hlines.out]; simp, ?_⟩
              rw [hmf.out]
              simpa using hS9
            case measure =>
              show strLen (Value.string _) < strLen (Value.string _)
              rw [slice_drop _ _ _ (by simp), strLen_mk, strLen_mk]
              simp; omega
          | false =>
            have HM := Lib.hid hmm
            have hmf : Hid (Pm.mark f = f) := Lib.hid (by rw [hmd.out, hmm]; rfl)
            clear hmm hmd
            go_wp2_with (first
              | (go_at_call 20; refine (hf1.out _).mono ?_; rintro e w' ⟨rfl, rfl⟩)
              | (go_at_call 36; refine (hmk.out _).mono ?_; rintro e w' ⟨rfl, rfl⟩; rw [HM.out])
              | (go_at_call 34; refine (hstr.out _ _ (by omega) T0.out).mono ?_; rintro e w9 ⟨rfl, hS9⟩))
            go_roundw
            case rel =>
              refine ⟨(c :: r).drop f.length, W ++ Pm.mark f, str_drop _ _ _ (by simp), by simp; omega, by rw [← HW.out, hlines.out]; simp, ?_⟩
              rw [hmf.out]
              simpa using hS9
            case measure =>
              show strLen (Value.string _) < strLen (Value.string _)
              rw [slice_drop _ _ _ (by simp), strLen_mk, strLen_mk]
              simp; omega
    · have hke : k = es.length := by omega
      subst hke
      have hwb := HWB.out
      rw [List.take_length] at hwb
      have hst := Lib.hid hwb.str
      go_wp2_with (go_at_call 37; refine (hst.out).mono ?_; rintro e w2 ⟨rfl, hb⟩)
      go_ret
      exact ⟨rfl, hb⟩
end Go.Proofs.YtbhhaehdoiaihaaGreatDoor
