/- The walk of missivelaw16.MboxDates: all cases. -/
import Derived.Test.YtbhhaehdoiaihaaGreatDoorZk
namespace Go.Proofs.YtbhhaehdoiaihaaGreatDoor
open Go.RowKit

theorem split_at1 (es : List Pm.Ent) (k : Nat) (h : k < es.length) : ∃ T x D, es = T ++ x :: D ∧ T.length = k := by
  refine ⟨es.take k, es[k], es.drop (k + 1), ?_, by simp; omega⟩
  conv => lhs; rw [← List.take_append_drop k es]
  rw [List.drop_eq_getElem_cons h]

set_option maxRecDepth 100000 in
set_option maxHeartbeats 2000000 in
theorem mboxDates_any (A : Option Addr) (c : Nat) (es : List Pm.Ent) (i : Int) (s : ByteArray) (_hs : s.size ≤ 9223372036854775807) (hi0 : -9223372036854775808 ≤ i) (hi1 : i ≤ 9223372036854775807) (w : World) (ht : Tab w) (hE : EntS w A es) (_hA : A = none → c = 0) (hle : es.length ≤ c)
    (_hsz : ∀ x ∈ es, x.sender.length ≤ 9223372036854775807 ∧ x.raw.length ≤ 9223372036854775807) :
    Calls Tryz.prog 5 #[.slice A es.length c, .int .i64 i, .string s] w (BoolPost true w) := by
  have hsm := Lib.hid (small_any w ht)
  have hfew := Lib.hid (fun w hE => few_any A c es w hE)
  have HE := Lib.hid hE
  have HT := Lib.hid ht
  clear hE ht
  unfold BoolPost
  cases hf : fewB es with
  | false =>
    rw [hf] at hfew
    go_enter Tryz.func5, Tryz.ntmps5
    go_wp2_with (first
      | (go_at_call 7; refine (hsm.out).mono ?_; rintro e w1 ⟨rfl, hb1⟩)
      | (go_at_call 8; refine (hfew.out _ (HE.out.up hb1)).mono ?_; rintro e w' ⟨rfl, rfl⟩))
    go_ret
    exact ⟨rfl, hb1⟩
  | true =>
    rw [hf] at hfew
    obtain ⟨f1, f2⟩ := fewB_parts es hf
    have hcl := Lib.hid (fun w ht hE => cleanAll_any A c es w ht hE (fun x hx => by have := f2 x hx; omega))
    unfold BoolPost at hcl
    cases hc : es.all Pm.clean with
    | false =>
      rw [hc] at hcl
      clear hf hc f1 f2
      go_enter Tryz.func5, Tryz.ntmps5
      go_wp2_with (first
        | (go_at_call 7; refine (hsm.out).mono ?_; rintro e w1 ⟨rfl, hb1⟩)
        | (go_at_call 8; refine (hfew.out _ (HE.out.up hb1)).mono ?_; rintro e w' ⟨rfl, rfl⟩)
        | (go_at_call 17; refine (hcl.out _ (HT.out.below hb1) (HE.out.up hb1)).mono ?_; rintro e w2 ⟨rfl, hb⟩; have hb2 := hb1.trans (hb.mono hb1.size); clear hb))
      go_ret
      exact ⟨rfl, hb2⟩
    | true =>
      rw [hc] at hcl
      by_cases h1 : i < 0
      · clear hf hc f1 f2
        go_enter Tryz.func5, Tryz.ntmps5
        go_wp2_with (first
          | (go_at_call 7; refine (hsm.out).mono ?_; rintro e w1 ⟨rfl, hb1⟩)
          | (go_at_call 8; refine (hfew.out _ (HE.out.up hb1)).mono ?_; rintro e w' ⟨rfl, rfl⟩)
          | (go_at_call 17; refine (hcl.out _ (HT.out.below hb1) (HE.out.up hb1)).mono ?_; rintro e w2 ⟨rfl, hb⟩; have hb2 := hb1.trans (hb.mono hb1.size); clear hb))
        go_ret
        exact ⟨rfl, hb2⟩
      by_cases h2 : (es.length : Int) ≤ i
      · clear hf hc f1 f2
        go_enter Tryz.func5, Tryz.ntmps5
        go_wp2_with (first
          | (go_at_call 7; refine (hsm.out).mono ?_; rintro e w1 ⟨rfl, hb1⟩)
          | (go_at_call 8; refine (hfew.out _ (HE.out.up hb1)).mono ?_; rintro e w' ⟨rfl, rfl⟩)
          | (go_at_call 17; refine (hcl.out _ (HT.out.below hb1) (HE.out.up hb1)).mono ?_; rintro e w2 ⟨rfl, hb⟩; have hb2 := hb1.trans (hb.mono hb1.size); clear hb))
        go_ret
        exact ⟨rfl, hb2⟩
      by_cases h3' : 20 < s.size
      · have h3 : 20 < (s.size : Int) := by omega
        clear hf hc f1 f2
        go_enter Tryz.func5, Tryz.ntmps5
        go_wp2_with (first
          | (go_at_call 7; refine (hsm.out).mono ?_; rintro e w1 ⟨rfl, hb1⟩)
          | (go_at_call 8; refine (hfew.out _ (HE.out.up hb1)).mono ?_; rintro e w' ⟨rfl, rfl⟩)
          | (go_at_call 17; refine (hcl.out _ (HT.out.below hb1) (HE.out.up hb1)).mono ?_; rintro e w2 ⟨rfl, hb⟩; have hb2 := hb1.trans (hb.mono hb1.size); clear hb))
        go_ret
        exact ⟨rfl, hb2⟩
      obtain ⟨T, x, D, rfl, hT⟩ := split_at1 es i.toNat (by omega)
      have hi : i = (T.length : Int) := by omega
      have hl : (T ++ x :: D).length = T.length + (D.length + 1) := by simp
      obtain ⟨b, o, rfl, hat⟩ := HE.out.at_ (by rw [hl]; omega)
      have hq := dates_core b o c T D x s (by omega) hf hc w HT.out hat (by rw [hl] at hle; exact hle)
      unfold BoolPost at hq
      rw [hi, hl]
      exact hq
end Go.Proofs.YtbhhaehdoiaihaaGreatDoor
