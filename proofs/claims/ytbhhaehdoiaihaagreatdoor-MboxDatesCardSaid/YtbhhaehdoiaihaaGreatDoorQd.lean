/- Plain: the pieces of what is written, in the form that the walks of MboxDates and MboxLost need. -/
import Derived.Test.YtbhhaehdoiaihaaGreatDoorQc
namespace Go.Proofs.YtbhhaehdoiaihaaGreatDoor.Pm

theorem write_ends (T : List Ent) (p : Ent) (hp : CleanE p) : ∃ B, write (T ++ [p]) = B ++ [10] ∧ 5 ≤ B.length := by
  refine ⟨write T ++ (sl p :: (lines p.raw).map mark).flatten, ?_, ?_⟩
  · have hw : write (T ++ [p]) = write T ++ writeOne p := by unfold write; simp
    rw [hw, writeOne_rest p hp]; unfold restOf; simp
  · have := bare_len (sl p) (sepLine_bare _ _)
    simp only [List.length_append, List.flatten_cons]
    omega
theorem write_cons (x : Ent) (D : List Ent) : write (x :: D) = writeOne x ++ write D := by unfold write; rw [List.flatMap_cons]
theorem write_starts (x : Ent) (D : List Ent) (hx : CleanE x) : spoilt x ++ (restOf x ++ write D) = [88, 114, 111, 109, 32] ++ (write (x :: D)).drop 5 ∧ 5 ≤ (write (x :: D)).length := by
  have h := write_cons x D
  rw [writeOne_rest x hx] at h
  rw [h]
  unfold spoilt sl sepLine fromB
  constructor
  · simp
  · simp
theorem read_lost (T D : List Ent) (p x : Ent) (h : ∀ e ∈ T ++ p :: x :: D, CleanE e) :
    read (write (T ++ [p]) ++ ([88, 114, 111, 109, 32] ++ (write (x :: D)).drop 5)) = (T ++ ⟨p.sender, p.date, p.raw ++ ([10] ++ spoilt x ++ x.raw)⟩ :: D, []) := by
  rw [← (write_starts x D (h x (by simp))).1]
  exact read_spoilt T D p x (fun e he => h e (by simp [he])) (h p (by simp)) (h x (by simp)) (fun e he => h e (by simp [he]))
theorem read_join (T D : List Ent) (p x : Ent) (h : ∀ e ∈ T ++ p :: x :: D, CleanE e) (hb : endsB p.raw = false) :
    read ((write (T ++ [p])).take ((write (T ++ [p])).length - 1) ++ write (x :: D)) = (T ++ p :: x :: D, [⟨3, ((write (T ++ [p])).length : Int) - 1⟩]) := by
  obtain ⟨B, hB, h5⟩ := write_ends T p (h p (by simp))
  have := read_joined T D p x (fun e he => h e (by simp [he])) (h p (by simp)) (h x (by simp)) (fun e he => h e (by simp [he])) hb B hB
  rw [hB]
  have e1 : (B ++ [10]).take ((B ++ [10]).length - 1) = B := by simp
  have e2 : ((B ++ [10]).length : Int) - 1 = B.length := by simp
  rw [e1, e2]
  exact this
theorem read_date (T D : List Ent) (x : Ent) (w : Bs) (h : ∀ e ∈ T ++ x :: D, CleanE e) (hw : letters w = true) :
    read (write T ++ (sepLine x.sender w ++ (restOf x ++ write D))) = (T ++ ⟨x.sender, 0, x.raw⟩ :: D, [⟨2, (write T).length⟩]) := by
  have := read_dates (T ++ x :: D) T.length (by simp) w h hw
  simpa using this
theorem write_one (x : Ent) (hx : CleanE x) : write [x] = sl x ++ restOf x := by
  rw [← writeOne_rest x hx]; unfold write; simp
end Go.Proofs.YtbhhaehdoiaihaaGreatDoor.Pm
