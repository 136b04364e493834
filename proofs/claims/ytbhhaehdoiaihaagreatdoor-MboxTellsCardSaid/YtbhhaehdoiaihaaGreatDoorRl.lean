/- Plain: what the reference's Unasctime reckons is Pm.unasc. -/
import Derived.Test.YtbhhaehdoiaihaaGreatDoorRk
namespace Go.Proofs.YtbhhaehdoiaihaaGreatDoor
open Go.RowKit

def joinC : List Pm.Bs → Pm.Bs
  | [] => []
  | [a] => a
  | a :: b :: r => a ++ 58 :: joinC (b :: r)
theorem splitC_ne (l : Pm.Bs) : Pm.splitC 58 l ≠ [] := by
  cases l with
  | nil => simp [Pm.splitC]
  | cons c l =>
    rw [splitC_cons]
    split
    · simp
    · split <;> simp
theorem join_split (l : Pm.Bs) : joinC (Pm.splitC 58 l) = l := by
  induction l with
  | nil => rfl
  | cons c l ih =>
    rw [splitC_cons]
    by_cases h : c = 58
    · rw [if_pos h]
      cases hs : Pm.splitC 58 l with
      | nil => exact absurd hs (splitC_ne l)
      | cons a r => rw [hs] at ih; show [] ++ 58 :: joinC (a :: r) = _; rw [ih, h]; rfl
    · rw [if_neg h]
      cases hs : Pm.splitC 58 l with
      | nil => exact absurd hs (splitC_ne l)
      | cons a r =>
        rw [hs] at ih
        dsimp only
        cases r with
        | nil => show c :: a = c :: l; rw [← ih]; rfl
        | cons b r => show (c :: a) ++ 58 :: joinC (b :: r) = c :: l; rw [← ih]; rfl
theorem dg2_len (l : Pm.Bs) (h : isDg2 l = true) : l.length = 2 := by
  unfold isDg2 Pm.digits at h
  split at h
  · cases h
  · omega
theorem dg2_some (l : Pm.Bs) (h : isDg2 l = true) : Pm.digits l 2 2 = some (dg2 l) := by
  unfold isDg2 at h
  unfold dg2
  cases hd : Pm.digits l 2 2 with
  | none => rw [hd] at h; cases h
  | some v => rfl
theorem dg2_none (l : Pm.Bs) (h : isDg2 l = false) : Pm.digits l 2 2 = none := by
  unfold isDg2 at h
  cases hd : Pm.digits l 2 2 with
  | none => rfl
  | some v => rw [hd] at h; cases h
theorem dg2_60 (l : Pm.Bs) (h : isDg2 l = true) : dg2 l = 60 ↔ l = [54, 48] := by
  constructor
  · intro e
    have hl := dg2_len l h
    have hd := dg2_some l h
    rw [e] at hd
    rw [digits_in l 2 2 (by omega)] at hd
    unfold Pm.number at hd
    rw [if_neg (by omega)] at hd
    split at hd
    · next ha =>
      match l, hl with
      | [x, y], _ =>
        simp only [List.foldl_cons, List.foldl_nil, Option.some.injEq] at hd
        simp only [List.all_cons, List.all_nil, Bool.and_true, Bool.and_eq_true, decide_eq_true_eq, UInt8.le_iff_toNat_le] at ha
        have e1 : (48 : UInt8).toNat = 48 := rfl
        have e2 : (57 : UInt8).toNat = 57 := rfl
        rw [e1, e2] at ha
        have hx : x = 54 := (Pm.u8_eq_iff x 54).2 (by have e3 : (54 : UInt8).toNat = 54 := rfl; omega)
        have hy : y = 48 := (Pm.u8_eq_iff y 48).2 (by omega)
        rw [hx, hy]
    · cases hd
  · rintro rfl; decide
theorem tod_clock (d : Pm.Bs) : Pm.timeOfDay d = if (clockR d).1 = true ∧ d.length = 8 ∧ d.drop 6 ≠ [54, 48] then some ((clockR d).2 * 1000) else none := by
  have hj := join_split d
  unfold Pm.timeOfDay clockR
  rw [split_splitC]
  match h : Pm.splitC 58 d with
  | [] => exact absurd h (splitC_ne d)
  | [a] => simp
  | [a, b] =>
    rw [h] at hj
    dsimp only
    rw [if_neg]
    rintro ⟨h1, h2, _⟩
    unfold okClock at h1
    simp only [Bool.and_eq_true] at h1
    have l1 := dg2_len a (by simp [h1])
    have l2 := dg2_len b (by simp [h1])
    rw [← hj] at h2
    simp [joinC] at h2
    omega
  | [a, b, c] =>
    rw [h] at hj
    dsimp only
    by_cases ha : isDg2 a = true
    case neg =>
      have ha' : isDg2 a = false := by simpa using ha
      rw [dg2_none a ha']; simp [okClock, ha']
    rw [dg2_some a ha]
    dsimp only
    by_cases g1 : 23 < dg2 a
    · simp [okClock, g1]
    rw [if_neg g1]
    by_cases hb : isDg2 b = true
    case neg =>
      have hb' : isDg2 b = false := by simpa using hb
      rw [dg2_none b hb']; simp [okClock, hb']
    rw [dg2_some b hb]
    dsimp only
    by_cases g2 : 59 < dg2 b
    · simp [okClock, g2]
    rw [if_neg g2]
    by_cases hc : isDg2 c = true
    case neg =>
      have hc' : isDg2 c = false := by simpa using hc
      rw [dg2_none c hc']; simp [okClock, hc']
    rw [dg2_some c hc]
    dsimp only
    have l1 := dg2_len a ha
    have l2 := dg2_len b hb
    have l3 := dg2_len c hc
    have hd8 : d.length = 8 := by rw [← hj]; simp [joinC, l1, l2, l3]
    have hd6 : d.drop 6 = c := by
      rw [← hj]
      match a, l1, b, l2 with
      | [a1, a2], _, [b1, b2], _ => rfl
    have h60 := dg2_60 c hc
    rw [hd6]
    by_cases g3 : 59 < dg2 c
    · rw [if_pos g3, if_neg]
      rintro ⟨h1, _, h3⟩
      unfold okClock at h1
      simp at h1
      exact h3 (h60.1 (by omega))
    · have hok : okClock (isDg2 a) (isDg2 b) (isDg2 c) (dg2 a) (dg2 b) (dg2 c) = true := by
        rw [ha, hb, hc]; simp [okClock]; omega
      rw [if_neg g3, if_pos ⟨hok, hd8, fun e => by have := h60.2 e; omega⟩, hok]
      unfold secClock
      rw [if_pos rfl]
      congr 1
      omega
  | a :: b :: c :: e :: r => simp

/-- The five words of a date as the reference reads them. -/
theorem unasc_five (l a b c d e : Pm.Bs) (h : Pm.fields l = [a, b, c, d, e]) : Pm.unasc l =
    match Pm.digits c 1 2, Pm.digits e 4 4 with
    | some dd, some y => if (clockR d).1 = true ∧ Pm.monthOf b ≠ 0 ∧ Pm.isDay a = true ∧ d.length = 8 ∧ d.drop 6 ≠ [54, 48] then (match Pm.dayNumber y (Pm.monthOf b) dd with
        | none => none
        | some n => if Pm.isTime (n * 86400000 + 1000 * (clockR d).2) then some (n * 86400000 + 1000 * (clockR d).2) else none) else none
    | _, _ => none := by
  unfold Pm.unasc
  rw [h]
  dsimp only
  rw [tod_clock]
  unfold Pm.dayAt
  cases hc : Pm.digits c 1 2 with
  | none => cases he : Pm.digits e 4 4 <;> simp
  | some dd =>
    cases he : Pm.digits e 4 4 with
    | none => simp
    | some y =>
      dsimp only
      by_cases ha : Pm.isDay a = true
      case neg => rw [if_neg ha, if_neg (fun q => ha q.2.2.1)]
      rw [if_pos ha]
      cases hn : Pm.dayNumber y (Pm.monthOf b) dd with
      | none => dsimp only; split <;> rfl
      | some n =>
        dsimp only
        have hm : Pm.monthOf b ≠ 0 := by
          intro e0; rw [e0] at hn; unfold Pm.dayNumber at hn; rw [if_pos (by omega)] at hn; cases hn
        by_cases hk : (clockR d).1 = true ∧ d.length = 8 ∧ d.drop 6 ≠ [54, 48]
        · rw [if_pos hk, if_pos ⟨hk.1, hm, ha, hk.2⟩]
          dsimp only
          unfold Pm.dayMs
          rw [show (clockR d).2 * 1000 = 1000 * (clockR d).2 by omega]
        · rw [if_neg hk, if_neg (fun q => hk ⟨q.1, q.2.2.2⟩)]
end Go.Proofs.YtbhhaehdoiaihaaGreatDoor
