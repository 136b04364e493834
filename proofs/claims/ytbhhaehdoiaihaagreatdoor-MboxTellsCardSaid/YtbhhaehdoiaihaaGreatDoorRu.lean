/- The walk of missivelaw16.MboxTells. -/
import Derived.Test.YtbhhaehdoiaihaaGreatDoorRt
import Derived.Test.YtbhhaehdoiaihaaGreatDoorZe
namespace Go.Proofs.YtbhhaehdoiaihaaGreatDoor
open Go.RowKit

theorem hurt_self (s : Pm.Bs) (hs : s.length ≤ 1000000) :
    ∀ (k : Nat) (h1 : k < (Pm.read s).2.length) (h2 : k < (Pm.read s).2.length), (Pm.read s).2[k].kind = (Pm.read s).2[k].kind ∧ (Pm.read s).2[k].at_ = (Pm.read s).2[k].at_ + 0 ∧ -9223372036854775808 ≤ (Pm.read s).2[k].at_ ∧ (Pm.read s).2[k].at_ ≤ 9223372036854775807 := by
  intro k h1 h2
  have hb := (Pm.read_facts s).kinds _ (List.getElem_mem h1)
  exact ⟨rfl, by omega, by omega, by omega⟩
def HurtSelf (D : List Pm.Dam) : Prop :=
  ∀ (k : Nat) (h1 : k < D.length) (h2 : k < D.length), D[k].kind = D[k].kind ∧ D[k].at_ = D[k].at_ + 0 ∧ -9223372036854775808 ≤ D[k].at_ ∧ D[k].at_ ≤ 9223372036854775807
theorem hurtSelf (s : Pm.Bs) (hs : s.length ≤ 1000000) : HurtSelf (Pm.read s).2 := hurt_self s hs
def CleanAt (b : Bool) (wr : World) (e : Ending) (w' : World) : Prop := e = .returned (.bool b) ∧ Below wr.heap.size wr w'

set_option maxRecDepth 100000 in
set_option maxHeartbeats 3200000 in
theorem mboxTells_any (s : ByteArray) (hs : s.size ≤ 9223372036854775807) (A : Option Addr) (c : Nat) (es : List Pm.Ent) (w : World) (ht : Tab w) (hE : EntS w A es)
    (hsz : ∀ x ∈ es, x.sender.length ≤ 9223372036854775807 ∧ x.raw.length ≤ 9223372036854775807) :
    Calls Tryz.prog 3 #[.string s, .slice A es.length c] w (BoolPost true w) := by
  have hsm := Lib.hid (small_any w ht)
  have hfew := Lib.hid (fun w hE => few_any A c es w hE)
  have HE := Lib.hid hE
  have HT := Lib.hid ht
  have hlen := hE.1
  clear hE ht
  unfold BoolPost
  by_cases h4 : 4000 < s.size
  · have h4' : 4000 < (s.size : Int) := by omega
    clear hfew hsz
    go_enter Tryz.func3, Tryz.ntmps3
    go_wp2_with (go_at_call 7; (with_reducible refine (hsm.out).mono ?_); rintro e w1 ⟨rfl, hb1⟩)
    go_ret
    exact ⟨rfl, hb1⟩
  have h4' : ¬ 4000 < (s.size : Int) := by omega
  cases hf : fewB es with
  | false =>
    rw [hf] at hfew
    clear hf hsz
    go_enter Tryz.func3, Tryz.ntmps3
    go_wp2_with (first
      | (go_at_call 7; (with_reducible refine (hsm.out).mono ?_); rintro e w1 ⟨rfl, hb1⟩)
      | (go_at_call 8; (with_reducible refine (hfew.out _ (HE.out.up hb1)).mono ?_); rintro e w' ⟨rfl, rfl⟩))
    go_ret
    exact ⟨rfl, hb1⟩
  | true =>
    rw [hf] at hfew
    obtain ⟨f1, f2⟩ := fewB_parts es hf
    have HZ := Lib.hid f2
    have hrd := Lib.hid (fun w ht => read_any s (by omega) w ht)
    have hrr := Lib.hid (fun w => rread_any s.data.toList (by rw [← Lib.size_eq]; omega) w)
    rw [Lib.mk_data] at hrr
    unfold ReadPost at hrd hrr
    have hwr := Lib.hid (fun w ht hE => write_any A c es w ht hE (by omega) (fun x hx => by have := f2 x hx; omega))
    have hww := Lib.hid (fun w ht hE => rwrite_any A c es w ht hE (by omega) (fun x hx => by have := f2 x hx; omega))
    unfold StrPost at hwr hww
    have hhs := Lib.hid (hurtSelf s.data.toList (by rw [← Lib.size_eq]; omega))
    generalize (Pm.read s.data.toList).1 = E1 at *
    generalize (Pm.read s.data.toList).2 = D1 at *
    clear hf f2 hsz
    go_enter Tryz.func3, Tryz.ntmps3
    go_wp2_with (first
      | (go_at_call 7; (with_reducible refine (hsm.out).mono ?_); rintro e w1 ⟨rfl, hb1⟩)
      | (go_at_call 8; (with_reducible refine (hfew.out _ (HE.out.up hb1)).mono ?_); rintro e w' ⟨rfl, rfl⟩)
      | (go_at_call 9; (with_reducible refine (hrd.out _ (HT.out.below hb1)).mono ?_); rintro e w2 ⟨Aa, Ax, ca, cx, rfl, ho1, ho2, hb⟩; have HA := Lib.hid (entS_of_own ho1); have HX := Lib.hid (damS_of_own ho2); have hb2 := hb1.trans (hb.mono hb1.size); clear ho1 ho2 hb)
      | (go_at_call 10; (with_reducible refine (hrr.out _).mono ?_); rintro e w3 ⟨Ab, Ay, cb, cy, rfl, ho1, ho2, hb⟩; have HA3 := Lib.hid (HA.out.up hb); have HX3 := Lib.hid (HX.out.up hb); have HB := Lib.hid (entS_of_own ho1); have HY := Lib.hid (damS_of_own ho2); have hb3 := hb2.trans (hb.mono hb2.size); clear ho1 ho2 hb))
    clear hsm hfew hrd hrr
    go_loopw [10] (fun v10 wr => ∃ k : Nat, k ≤ es.length ∧ v10 = .int .i64 k ∧ Below w3.heap.size w3 wr) (fun v10 _ => es.length - (intOf v10).toNat)
    case atStart => exact ⟨0, by omega, rfl, Below.refl _ _⟩
    case round =>
      obtain ⟨k, hk, rfl, hB⟩ := hrel
      have hbw := hb3.trans (hB.mono hb3.size)
      by_cases hlt : k < es.length
      · have hlt' : (k : Int) < (es.length : Int) := by omega
        have hk0 : 0 ≤ (k : Int) := by omega
        obtain ⟨b, o, rfl, hat⟩ := (HE.out.up hbw).at_ (by omega)
        have q1 := hat.sender k hlt
        have q2 := hat.date k hlt
        have q3 := hat.raw k hlt
        obtain ⟨z1, z2⟩ := HZ.out es[k] (List.getElem_mem hlt)
        have HTw := Lib.hid (HT.out.below hbw)
        have hc1 : Hid (∀ W, Below wr.heap.size wr W → Calls Tryz.prog 11 #[.agg #[.string ⟨es[k].sender.toArray⟩, .int .i64 es[k].date, .string ⟨es[k].raw.toArray⟩]] W (CleanAt (Pm.clean es[k]) wr)) :=
          Lib.hid fun W hb => (clean_any ⟨es[k].sender.toArray⟩ ⟨es[k].raw.toArray⟩ es[k].date (by rw [Lib.size_eq]; show es[k].sender.length ≤ _; omega) (by rw [Lib.size_eq]; show es[k].raw.length ≤ _; omega) W (HTw.out.below hb)).mono fun e w' ⟨h1, h2⟩ => ⟨h1, hb.trans (h2.mono hb.size)⟩
        have hc2 : Hid (∀ W, Below wr.heap.size wr W → Calls Tryz.prog 12 #[.agg #[.string ⟨es[k].sender.toArray⟩, .int .i64 es[k].date, .string ⟨es[k].raw.toArray⟩]] W (CleanAt (Pm.clean es[k]) wr)) :=
          Lib.hid fun W hb => (rclean_any ⟨es[k].sender.toArray⟩ ⟨es[k].raw.toArray⟩ es[k].date (by rw [Lib.size_eq]; show es[k].sender.length ≤ _; omega) (by rw [Lib.size_eq]; show es[k].raw.length ≤ _; omega) W (HTw.out.below hb)).mono fun e w' ⟨h1, h2⟩ => ⟨h1, hb.trans (h2.mono hb.size)⟩
        unfold CleanAt at hc1 hc2
        clear hat
        generalize Pm.clean es[k] = B at *
        generalize es[k] = x at *
        have hb5 : Below wr.heap.size wr wr.drew := (Below.refl _ _).drew
        go_wp2
        go_region_held3 (fun w' => w'.cell? ⟨b, o + k * 3, none⟩ = some (.string ⟨x.sender.toArray⟩) ∧ w'.cell? ⟨b, o + k * 3 + 1, none⟩ = some (.int .i64 x.date) ∧ w'.cell? ⟨b, o + k * 3 + 2, none⟩ = some (.string ⟨x.raw.toArray⟩))
          (exact ⟨cell_up hb5 q1, cell_up hb5 q2, cell_up hb5 q3⟩)
          (first
            | (go_at_call 11; refine (hc1.out _ hb5).mono ?_; rintro e w5 ⟨rfl, hb5⟩)
            | (go_at_call 12; refine (hc2.out _ hb5).mono ?_; rintro e w5 ⟨rfl, hb5⟩))
        all_goals
          go_wp2
          go_roundw
          case rel => exact ⟨k + 1, by omega, by go_num, hB.trans (hb5.mono hB.size)⟩
          case measure => simp [intOf]; omega
      · have hke : k = es.length := by omega
        subst hke
        have hlt' : ¬ (es.length : Int) < (es.length : Int) := by omega
        go_wp2_with (first
          | (go_at_call 13; have hq := same_lists Aa Ab ca cb E1 wr (HA3.out.up hB) (HB.out.up hB); unfold BoolPost at hq; refine hq.mono ?_; clear hq; rintro e w5 ⟨rfl, hb⟩; have h35 := hB.trans (hb.mono hB.size); clear hb)
          | (go_at_call 14; have hq := hurt_lists Ax Ay cx cy D1 D1 0 w5 (HX3.out.up h35) (HY.out.up h35) rfl hhs.out; unfold BoolPost at hq; refine hq.mono ?_; clear hq; rintro e w6 ⟨rfl, hb⟩; have h36 := h35.trans (hb.mono h35.size); have hb6 := hb3.trans (h36.mono hb3.size); clear hb)
          | (go_at_call 15; (with_reducible refine (hwr.out _ (HT.out.below hb6) (HE.out.up hb6)).mono ?_); rintro e w7 ⟨rfl, hb⟩; have hb7 := hb6.trans (hb.mono hb6.size); clear hb)
          | (go_at_call 16; (with_reducible refine (hww.out _ (HT.out.below hb7) (HE.out.up hb7)).mono ?_); rintro e w8 ⟨rfl, hb⟩; have hb8 := hb7.trans (hb.mono hb7.size); clear hb))
        go_ret
        exact ⟨rfl, hb8⟩
end Go.Proofs.YtbhhaehdoiaihaaGreatDoor
