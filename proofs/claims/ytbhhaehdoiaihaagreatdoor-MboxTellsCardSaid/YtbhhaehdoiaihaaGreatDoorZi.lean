/- The walk of missivelaw16.ends. -/
import Derived.Test.YtbhhaehdoiaihaaGreatDoorZh
import Derived.Test.YtbhhaehdoiaihaaGreatDoorZa
namespace Go.Proofs.YtbhhaehdoiaihaaGreatDoor
open Go.RowKit

theorem lines_count (l : Pm.Bs) : (Pm.lines l).length ≤ l.length := by
  induction l with
  | nil => simp [Pm.lines]
  | cons c t ih =>
    rw [Pm.lines_cons]
    split
    · simp; omega
    · cases hL : Pm.lines t with
      | nil => simp
      | cons a bs => rw [hL] at ih; simp at ih ⊢; omega
theorem line_le (s x : Pm.Bs) (L : List Pm.Bs) (h : Pm.lines s = L ++ [x]) : x.length ≤ s.length := by
  have := Pm.lines_flatten s
  rw [← this, h]; simp

set_option maxRecDepth 100000 in
set_option maxHeartbeats 1600000 in
theorem ends_any (l : Pm.Bs) (hs : l.length ≤ 1000000) (w : World) :
    Calls Tryz.prog 19 #[.string ⟨l.toArray⟩] w (BoolPost (Pm.endsB l) w) := by
  have hln := Lib.hid (lines_any ⟨l.toArray⟩ (by rw [Lib.size_eq]; show l.length ≤ _; omega) w)
  unfold LinesPost at hln
  have e0 : (⟨l.toArray⟩ : ByteArray).data.toList = l := rfl
  rw [e0] at hln
  clear e0
  unfold BoolPost Pm.endsB
  rcases List.eq_nil_or_concat (Pm.lines l) with h1 | ⟨L, x, h1⟩
  · rw [h1] at hln ⊢
    clear h1
    go_enter Tryz.func19, Tryz.ntmps19
    go_wp2_with (go_at_call 26; refine (hln.out).mono ?_; rintro e w1 ⟨A, c, rfl, ho, hb1⟩; clear ho)
    go_ret
    exact ⟨rfl, hb1⟩
  · rw [List.concat_eq_append] at h1
    have hx := line_le l x L h1
    have hL := lines_count l
    rw [h1] at hln hL ⊢
    clear h1
    rw [List.getLast?_concat]
    dsimp only
    have hc := Lib.hid (fun w => refContent_any x (by omega) w)
    have hn : (L ++ [x]).length = L.length + 1 := by simp
    rw [hn] at hln hL
    have hcell : Hid (((L ++ [x]).map strV)[L.length]? = some (strV x)) := Lib.hid (by simp)
    generalize (L ++ [x]).map strV = V at *
    go_enter Tryz.func19, Tryz.ntmps19
    go_wp2_with (first
      | (go_at_call 26; refine (hln.out).mono ?_; rintro e w1 ⟨A, c, rfl, ho, hb1⟩; obtain ⟨g, rfl⟩ := row_some ho (by omega); have q1 : w1.cell? ⟨g, L.length, none⟩ = some (strV x) := (by have := (ho.cellAt L.length (by omega)).trans hcell.out; simpa using this); unfold strV at q1; clear ho)
      | (go_at_call 27; refine (hc.out _).mono ?_; rintro e w' ⟨rfl, rfl⟩))
    go_ret
    exact ⟨rfl, hb1⟩
end Go.Proofs.YtbhhaehdoiaihaaGreatDoor
