/- The walks of Same and Hurt at lists that are equal. -/
import Derived.Test.YtbhhaehdoiaihaaGreatDoorZa
namespace Go.Proofs.YtbhhaehdoiaihaaGreatDoor
open Go.RowKit

set_option maxHeartbeats 1600000 in
theorem same_lists (A B : Option Addr) (c d : Nat) (es : List Pm.Ent) (w : World) (hE : EntS w A es) (hF : EntS w B es) :
    Calls Tryz.prog 13 #[.slice A es.length c, .slice B es.length d] w (BoolPost true w) := by
  have HE := Lib.hid hE
  have HF := Lib.hid hF
  have hlen := hE.1
  clear hE hF
  unfold BoolPost
  go_enter Tryz.func13, Tryz.ntmps13
  go_wp2
  go_loopw [5] (fun i wr => ∃ k m : Nat, k ≤ es.length ∧ i = .int .i64 k ∧ wr = w.drewN m) (fun i _ => es.length - (intOf i).toNat)
  case atStart => exact ⟨0, 0, by omega, rfl, rfl⟩
  case round =>
    obtain ⟨k, m, hk, rfl, rfl⟩ := hrel
    by_cases hlt : k < es.length
    · have hlt' : (k : Int) < (es.length : Int) := by omega
      obtain ⟨b, o, rfl, hat⟩ := HE.out.at_ (by omega)
      obtain ⟨b2, o2, rfl, hat2⟩ := HF.out.at_ (by omega)
      have q1 := hat.sender k hlt
      have q2 := hat.date k hlt
      have q3 := hat.raw k hlt
      have r1 := hat2.sender k hlt
      have r2 := hat2.date k hlt
      have r3 := hat2.raw k hlt
      clear hat hat2
      generalize es[k] = x at *
      go_wp2
      go_quiet (fail)
      go_wp2
      go_roundw
      case rel => exact ⟨k + 1, _, by omega, by go_num, rfl⟩
      case measure => simp [intOf]; omega
    · have hke : k = es.length := by omega
      subst hke
      go_wp2
      go_ret
      exact ⟨rfl, below_drewN (Below.refl _ _) _⟩

theorem hurt_lists (A B : Option Addr) (c d : Nat) (xs ys : List Pm.Dam) (q : Int) (w : World) (hE : DamS w A xs) (hF : DamS w B ys) (hl : xs.length = ys.length)
    (hk : ∀ (k : Nat) (h1 : k < xs.length) (h2 : k < ys.length), xs[k].kind = ys[k].kind ∧ xs[k].at_ = ys[k].at_ + q ∧ -9223372036854775808 ≤ xs[k].at_ ∧ xs[k].at_ ≤ 9223372036854775807) :
    Calls Tryz.prog 14 #[.slice A xs.length c, .slice B ys.length d, .int .i64 q] w (BoolPost true w) := by
  have HE := Lib.hid hE
  have HF := Lib.hid hF
  have HK := Lib.hid hk
  have hlen := hE.1
  clear hE hF hk
  unfold BoolPost
  rw [← hl]
  have HL := Lib.hid hl
  clear hl
  go_enter Tryz.func14, Tryz.ntmps14
  go_wp2
  go_loopw [7] (fun i wr => ∃ k m : Nat, k ≤ xs.length ∧ i = .int .i64 k ∧ wr = w.drewN m) (fun i _ => xs.length - (intOf i).toNat)
  case atStart => exact ⟨0, 0, by omega, rfl, rfl⟩
  case round =>
    obtain ⟨k, m, hk, rfl, rfl⟩ := hrel
    by_cases hlt : k < xs.length
    · have hlt' : (k : Int) < (xs.length : Int) := by omega
      have hly : k < ys.length := by rw [← HL.out]; exact hlt
      obtain ⟨b, o, rfl, hat⟩ := HE.out.at_ (by omega)
      obtain ⟨b2, o2, rfl, hat2⟩ := HF.out.at_ (by omega)
      have q1 := hat.kind k hlt
      have q2 := hat.pos k hlt
      have r1 := hat2.kind k hly
      have r2 := hat2.pos k hly
      obtain ⟨z1, z2, z3, z4⟩ := HK.out k hlt hly
      clear hat hat2
      generalize xs[k].kind = K at *
      generalize xs[k].at_ = P at *
      generalize ys[k].kind = K2 at *
      generalize ys[k].at_ = P2 at *
      subst z1 z2
      have e1 : IntKind.i64.wrap (P2 + q) = P2 + q := by rw [IntWalk.i64_in _ (by omega)]
      go_wp2
      go_quiet (fail)
      go_wp2
      go_roundw
      case rel => exact ⟨k + 1, _, by omega, by go_num, rfl⟩
      case measure => simp [intOf]; omega
    · have hke : k = xs.length := by omega
      subst hke
      go_wp2
      go_ret
      exact ⟨rfl, below_drewN (Below.refl _ _) _⟩
end Go.Proofs.YtbhhaehdoiaihaaGreatDoor
