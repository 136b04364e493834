/- The walk of missiveref11.Clock. -/
import Derived.Test.YtbhhaehdoiaihaaGreatDoorRj
namespace Go.Proofs.YtbhhaehdoiaihaaGreatDoor
open Go.RowKit

def okClock (o1 o2 o3 : Bool) (h m s : Int) : Bool := o1 && o2 && o3 && !decide (23 < h) && !decide (59 < m) && !decide (60 < s)
def secClock (b : Bool) (h m s : Int) : Int := if b then 3600 * h + 60 * m + min s 59 else 0
def dg2 (l : Pm.Bs) : Int := (Pm.digits l 2 2).getD 0
def isDg2 (l : Pm.Bs) : Bool := (Pm.digits l 2 2).isSome
/-- Whether a time of the day is one, and its seconds. -/
def clockR (l : Pm.Bs) : Bool × Int := match Pm.splitC 58 l with
  | [a, b] => (okClock (isDg2 a) (isDg2 b) true (dg2 a) (dg2 b) 0, secClock (okClock (isDg2 a) (isDg2 b) true (dg2 a) (dg2 b) 0) (dg2 a) (dg2 b) 0)
  | [a, b, c] => (okClock (isDg2 a) (isDg2 b) (isDg2 c) (dg2 a) (dg2 b) (dg2 c), secClock (okClock (isDg2 a) (isDg2 b) (isDg2 c) (dg2 a) (dg2 b) (dg2 c)) (dg2 a) (dg2 b) (dg2 c))
  | _ => (false, 0)
def ClockPost (l : Pm.Bs) (w : World) (e : Ending) (w' : World) : Prop := e = .returned (.tuple #[.int .i64 (clockR l).2, .bool (clockR l).1]) ∧ Below w.heap.size w w'
theorem dg2_bd (l : Pm.Bs) : 0 ≤ dg2 l ∧ dg2 l ≤ 99 := by
  unfold dg2
  cases h : Pm.digits l 2 2 with
  | none => simp
  | some v => exact digits_bd l v h
theorem clockR_other (l : Pm.Bs) (h2 : (Pm.splitC 58 l).length ≠ 2) (h3 : (Pm.splitC 58 l).length ≠ 3) : clockR l = (false, 0) := by
  unfold clockR
  split
  · next e => rw [e] at h2; simp at h2
  · next e => rw [e] at h3; simp at h3
  · rfl
theorem splitC_le (l : Pm.Bs) : ∀ x ∈ Pm.splitC 58 l, x.length ≤ l.length := by
  induction l with
  | nil => intro x hx; simp [Pm.splitC] at hx; subst hx; simp
  | cons c l ih =>
    intro x hx
    rw [splitC_cons] at hx
    split at hx
    · rcases List.mem_cons.1 hx with rfl | hx
      · simp
      · have := ih x hx; simp; omega
    · split at hx
      · simp at hx; subst hx; simp
      · next a r e =>
        rw [e] at ih
        rcases List.mem_cons.1 hx with rfl | hx
        · have := ih a (by simp); simp; omega
        · have := ih x (by simp [hx]); simp; omega

theorem rdg2 (p : Pm.Bs) (hp : p.length ≤ 1000000) (w : World) : Calls Tryz.prog 71 #[.string ⟨p.toArray⟩, .int .i64 2, .int .i64 2] w fun e w' => e = .returned (.tuple #[.int .i64 (dg2 p), .bool (isDg2 p)]) ∧ w = w' :=
  rdigits_any ⟨p.toArray⟩ (by rw [Lib.size_eq]; show p.length ≤ _; omega) 2 2 (by omega) (by omega) (by omega) w

set_option maxRecDepth 100000 in
set_option maxHeartbeats 6400000 in
theorem rClock_any (s : ByteArray) (hs : s.size ≤ 1000000) (w : World) :
    Calls Tryz.prog 72 #[.string s, .int .i64 2] w (ClockPost s.data.toList w) := by
  have hcut := Lib.hid (cut_any s hs w)
  have hsz := Lib.size_eq s
  have hpl := splitC_le s.data.toList
  unfold CutPost at hcut
  unfold ClockPost
  by_cases h2 : (Pm.splitC 58 s.data.toList).length = 2
  · obtain ⟨a, b, hab⟩ : ∃ a b, Pm.splitC 58 s.data.toList = [a, b] := by
      match h : Pm.splitC 58 s.data.toList with
      | [] => rw [h] at h2; simp at h2
      | [x] => rw [h] at h2; simp at h2
      | [x, y] => exact ⟨x, y, rfl⟩
      | x :: y :: z :: r => rw [h] at h2; simp at h2
    unfold clockR
    rw [hab] at hcut hpl ⊢
    dsimp only
    have D1 := Lib.hid (fun w => rdg2 a (by have := hpl a (by simp); omega) w)
    have D2 := Lib.hid (fun w => rdg2 b (by have := hpl b (by simp); omega) w)
    obtain ⟨b1, b2⟩ := dg2_bd a
    obtain ⟨b3, b4⟩ := dg2_bd b
    clear h2 hpl hab hsz
    simp only [List.map_cons, List.map_nil, List.length_cons, List.length_nil] at hcut
    generalize dg2 a = x at *
    generalize dg2 b = y at *
    generalize isDg2 a = p at *
    generalize isDg2 b = q at *
    generalize hV : okClock p q true x y 0 = V
    generalize hZ : secClock V x y 0 = Z
    cases p with
    | false =>
      obtain ⟨rfl, rfl⟩ : V = false ∧ Z = 0 := by
        have h1 : V = false := by rw [← hV]; simp [okClock, *]
        exact ⟨h1, by rw [← hZ, h1]; rfl⟩
      clear hV hZ
      go_enter Tryz.func72, Tryz.ntmps72
      go_wp2_with (first
        | (go_at_call 98; refine (hcut.out).mono ?_; rintro e w1 ⟨A, c, rfl, ho, hb1⟩; obtain ⟨g, rfl⟩ := row_some ho (by decide); have q0 : w1.cell? ⟨g, 0, none⟩ = some (.string ⟨a.toArray⟩) := (ho.cellAt 0 (by decide)).trans rfl; have q1 : w1.cell? ⟨g, 1, none⟩ = some (.string ⟨b.toArray⟩) := (ho.cellAt 1 (by decide)).trans rfl; clear ho)
        | (have _x := hy1; go_at_call 71; refine (D2.out _).mono ?_; rintro e w' ⟨rfl, rfl⟩; have hy2 := True.intro)
        | (go_at_call 71; refine (D1.out _).mono ?_; rintro e w' ⟨rfl, rfl⟩; have hy1 := True.intro))
      go_ret2
      exact ⟨rfl, hb1⟩
    | true =>
      cases q with
      | false =>
        obtain ⟨rfl, rfl⟩ : V = false ∧ Z = 0 := by
          have h1 : V = false := by rw [← hV]; simp [okClock, *]
          exact ⟨h1, by rw [← hZ, h1]; rfl⟩
        clear hV hZ
        go_enter Tryz.func72, Tryz.ntmps72
        go_wp2_with (first
          | (go_at_call 98; refine (hcut.out).mono ?_; rintro e w1 ⟨A, c, rfl, ho, hb1⟩; obtain ⟨g, rfl⟩ := row_some ho (by decide); have q0 : w1.cell? ⟨g, 0, none⟩ = some (.string ⟨a.toArray⟩) := (ho.cellAt 0 (by decide)).trans rfl; have q1 : w1.cell? ⟨g, 1, none⟩ = some (.string ⟨b.toArray⟩) := (ho.cellAt 1 (by decide)).trans rfl; clear ho)
          | (have _x := hy1; go_at_call 71; refine (D2.out _).mono ?_; rintro e w' ⟨rfl, rfl⟩; have hy2 := True.intro)
          | (go_at_call 71; refine (D1.out _).mono ?_; rintro e w' ⟨rfl, rfl⟩; have hy1 := True.intro))
        go_ret2
        exact ⟨rfl, hb1⟩
      | true =>
        by_cases gx : 23 < x
        · obtain ⟨rfl, rfl⟩ : V = false ∧ Z = 0 := by
            have h1 : V = false := by rw [← hV]; simp [okClock, *]
            exact ⟨h1, by rw [← hZ, h1]; rfl⟩
          clear hV hZ
          go_enter Tryz.func72, Tryz.ntmps72
          go_wp2_with (first
            | (go_at_call 98; refine (hcut.out).mono ?_; rintro e w1 ⟨A, c, rfl, ho, hb1⟩; obtain ⟨g, rfl⟩ := row_some ho (by decide); have q0 : w1.cell? ⟨g, 0, none⟩ = some (.string ⟨a.toArray⟩) := (ho.cellAt 0 (by decide)).trans rfl; have q1 : w1.cell? ⟨g, 1, none⟩ = some (.string ⟨b.toArray⟩) := (ho.cellAt 1 (by decide)).trans rfl; clear ho)
            | (have _x := hy1; go_at_call 71; refine (D2.out _).mono ?_; rintro e w' ⟨rfl, rfl⟩; have hy2 := True.intro)
            | (go_at_call 71; refine (D1.out _).mono ?_; rintro e w' ⟨rfl, rfl⟩; have hy1 := True.intro))
          go_ret2
          exact ⟨rfl, hb1⟩
        by_cases gy : 59 < y
        · obtain ⟨rfl, rfl⟩ : V = false ∧ Z = 0 := by
            have h1 : V = false := by rw [← hV]; simp [okClock, *]
            exact ⟨h1, by rw [← hZ, h1]; rfl⟩
          clear hV hZ
          go_enter Tryz.func72, Tryz.ntmps72
          go_wp2_with (first
            | (go_at_call 98; refine (hcut.out).mono ?_; rintro e w1 ⟨A, c, rfl, ho, hb1⟩; obtain ⟨g, rfl⟩ := row_some ho (by decide); have q0 : w1.cell? ⟨g, 0, none⟩ = some (.string ⟨a.toArray⟩) := (ho.cellAt 0 (by decide)).trans rfl; have q1 : w1.cell? ⟨g, 1, none⟩ = some (.string ⟨b.toArray⟩) := (ho.cellAt 1 (by decide)).trans rfl; clear ho)
            | (have _x := hy1; go_at_call 71; refine (D2.out _).mono ?_; rintro e w' ⟨rfl, rfl⟩; have hy2 := True.intro)
            | (go_at_call 71; refine (D1.out _).mono ?_; rintro e w' ⟨rfl, rfl⟩; have hy1 := True.intro))
          go_ret2
          exact ⟨rfl, hb1⟩
        obtain ⟨rfl, rfl⟩ : V = true ∧ Z = 3600 * x + 60 * y + min 0 59 := by
          have h1 : V = true := by rw [← hV]; simp [okClock, *] <;> omega
          exact ⟨h1, by rw [← hZ, h1]; rfl⟩
        clear hV hZ
        go_enter Tryz.func72, Tryz.ntmps72
        go_wp2_with (first
          | (go_at_call 98; refine (hcut.out).mono ?_; rintro e w1 ⟨A, c, rfl, ho, hb1⟩; obtain ⟨g, rfl⟩ := row_some ho (by decide); have q0 : w1.cell? ⟨g, 0, none⟩ = some (.string ⟨a.toArray⟩) := (ho.cellAt 0 (by decide)).trans rfl; have q1 : w1.cell? ⟨g, 1, none⟩ = some (.string ⟨b.toArray⟩) := (ho.cellAt 1 (by decide)).trans rfl; clear ho)
          | (have _x := hy1; go_at_call 71; refine (D2.out _).mono ?_; rintro e w' ⟨rfl, rfl⟩; have hy2 := True.intro)
          | (go_at_call 71; refine (D1.out _).mono ?_; rintro e w' ⟨rfl, rfl⟩; have hy1 := True.intro))
        go_ret2
        exact ⟨rfl, hb1⟩
  by_cases h3 : (Pm.splitC 58 s.data.toList).length = 3
  · obtain ⟨a, b, d, hab⟩ : ∃ a b d, Pm.splitC 58 s.data.toList = [a, b, d] := by
      match h : Pm.splitC 58 s.data.toList with
      | [] => rw [h] at h3; simp at h3
      | [x] => rw [h] at h3; simp at h3
      | [x, y] => rw [h] at h3; simp at h3
      | [x, y, z] => exact ⟨x, y, z, rfl⟩
      | x :: y :: z :: t :: r => rw [h] at h3; simp at h3
    unfold clockR
    rw [hab] at hcut hpl ⊢
    dsimp only
    have D1 := Lib.hid (fun w => rdg2 a (by have := hpl a (by simp); omega) w)
    have D2 := Lib.hid (fun w => rdg2 b (by have := hpl b (by simp); omega) w)
    have D3 := Lib.hid (fun w => rdg2 d (by have := hpl d (by simp); omega) w)
    obtain ⟨b1, b2⟩ := dg2_bd a
    obtain ⟨b3, b4⟩ := dg2_bd b
    obtain ⟨b5, b6⟩ := dg2_bd d
    clear h2 h3 hpl hab hsz
    simp only [List.map_cons, List.map_nil, List.length_cons, List.length_nil] at hcut
    generalize dg2 a = x at *
    generalize dg2 b = y at *
    generalize dg2 d = z at *
    generalize isDg2 a = p at *
    generalize isDg2 b = q at *
    generalize isDg2 d = r at *
    generalize hV : okClock p q r x y z = V
    generalize hZ : secClock V x y z = Z
    cases p with
    | false =>
      obtain ⟨rfl, rfl⟩ : V = false ∧ Z = 0 := by
        have h1 : V = false := by rw [← hV]; simp [okClock, *]
        exact ⟨h1, by rw [← hZ, h1]; rfl⟩
      clear hV hZ
      go_enter Tryz.func72, Tryz.ntmps72
      go_wp2_with (first
        | (go_at_call 98; refine (hcut.out).mono ?_; rintro e w1 ⟨A, c, rfl, ho, hb1⟩; obtain ⟨g, rfl⟩ := row_some ho (by decide); have q0 : w1.cell? ⟨g, 0, none⟩ = some (.string ⟨a.toArray⟩) := (ho.cellAt 0 (by decide)).trans rfl; have q1 : w1.cell? ⟨g, 1, none⟩ = some (.string ⟨b.toArray⟩) := (ho.cellAt 1 (by decide)).trans rfl; have q2 : w1.cell? ⟨g, 2, none⟩ = some (.string ⟨d.toArray⟩) := (ho.cellAt 2 (by decide)).trans rfl; clear ho)
        | (have _x := hy2; go_at_call 71; refine (D3.out _).mono ?_; rintro e w' ⟨rfl, rfl⟩; have hy3 := True.intro)
        | (have _x := hy1; go_at_call 71; refine (D2.out _).mono ?_; rintro e w' ⟨rfl, rfl⟩; have hy2 := True.intro)
        | (go_at_call 71; refine (D1.out _).mono ?_; rintro e w' ⟨rfl, rfl⟩; have hy1 := True.intro))
      go_ret2
      exact ⟨rfl, hb1⟩
    | true =>
      cases q with
      | false =>
        obtain ⟨rfl, rfl⟩ : V = false ∧ Z = 0 := by
          have h1 : V = false := by rw [← hV]; simp [okClock, *]
          exact ⟨h1, by rw [← hZ, h1]; rfl⟩
        clear hV hZ
        go_enter Tryz.func72, Tryz.ntmps72
        go_wp2_with (first
          | (go_at_call 98; refine (hcut.out).mono ?_; rintro e w1 ⟨A, c, rfl, ho, hb1⟩; obtain ⟨g, rfl⟩ := row_some ho (by decide); have q0 : w1.cell? ⟨g, 0, none⟩ = some (.string ⟨a.toArray⟩) := (ho.cellAt 0 (by decide)).trans rfl; have q1 : w1.cell? ⟨g, 1, none⟩ = some (.string ⟨b.toArray⟩) := (ho.cellAt 1 (by decide)).trans rfl; have q2 : w1.cell? ⟨g, 2, none⟩ = some (.string ⟨d.toArray⟩) := (ho.cellAt 2 (by decide)).trans rfl; clear ho)
          | (have _x := hy2; go_at_call 71; refine (D3.out _).mono ?_; rintro e w' ⟨rfl, rfl⟩; have hy3 := True.intro)
          | (have _x := hy1; go_at_call 71; refine (D2.out _).mono ?_; rintro e w' ⟨rfl, rfl⟩; have hy2 := True.intro)
          | (go_at_call 71; refine (D1.out _).mono ?_; rintro e w' ⟨rfl, rfl⟩; have hy1 := True.intro))
        go_ret2
        exact ⟨rfl, hb1⟩
      | true =>
        cases r with
        | false =>
          obtain ⟨rfl, rfl⟩ : V = false ∧ Z = 0 := by
            have h1 : V = false := by rw [← hV]; simp [okClock, *]
            exact ⟨h1, by rw [← hZ, h1]; rfl⟩
          clear hV hZ
          go_enter Tryz.func72, Tryz.ntmps72
          go_wp2_with (first
            | (go_at_call 98; refine (hcut.out).mono ?_; rintro e w1 ⟨A, c, rfl, ho, hb1⟩; obtain ⟨g, rfl⟩ := row_some ho (by decide); have q0 : w1.cell? ⟨g, 0, none⟩ = some (.string ⟨a.toArray⟩) := (ho.cellAt 0 (by decide)).trans rfl; have q1 : w1.cell? ⟨g, 1, none⟩ = some (.string ⟨b.toArray⟩) := (ho.cellAt 1 (by decide)).trans rfl; have q2 : w1.cell? ⟨g, 2, none⟩ = some (.string ⟨d.toArray⟩) := (ho.cellAt 2 (by decide)).trans rfl; clear ho)
            | (have _x := hy2; go_at_call 71; refine (D3.out _).mono ?_; rintro e w' ⟨rfl, rfl⟩; have hy3 := True.intro)
            | (have _x := hy1; go_at_call 71; refine (D2.out _).mono ?_; rintro e w' ⟨rfl, rfl⟩; have hy2 := True.intro)
            | (go_at_call 71; refine (D1.out _).mono ?_; rintro e w' ⟨rfl, rfl⟩; have hy1 := True.intro))
          go_ret2
          exact ⟨rfl, hb1⟩
        | true =>
          by_cases gx : 23 < x
          · obtain ⟨rfl, rfl⟩ : V = false ∧ Z = 0 := by
              have h1 : V = false := by rw [← hV]; simp [okClock, *]
              exact ⟨h1, by rw [← hZ, h1]; rfl⟩
            clear hV hZ
            go_enter Tryz.func72, Tryz.ntmps72
            go_wp2_with (first
              | (go_at_call 98; refine (hcut.out).mono ?_; rintro e w1 ⟨A, c, rfl, ho, hb1⟩; obtain ⟨g, rfl⟩ := row_some ho (by decide); have q0 : w1.cell? ⟨g, 0, none⟩ = some (.string ⟨a.toArray⟩) := (ho.cellAt 0 (by decide)).trans rfl; have q1 : w1.cell? ⟨g, 1, none⟩ = some (.string ⟨b.toArray⟩) := (ho.cellAt 1 (by decide)).trans rfl; have q2 : w1.cell? ⟨g, 2, none⟩ = some (.string ⟨d.toArray⟩) := (ho.cellAt 2 (by decide)).trans rfl; clear ho)
              | (have _x := hy2; go_at_call 71; refine (D3.out _).mono ?_; rintro e w' ⟨rfl, rfl⟩; have hy3 := True.intro)
              | (have _x := hy1; go_at_call 71; refine (D2.out _).mono ?_; rintro e w' ⟨rfl, rfl⟩; have hy2 := True.intro)
              | (go_at_call 71; refine (D1.out _).mono ?_; rintro e w' ⟨rfl, rfl⟩; have hy1 := True.intro))
            go_ret2
            exact ⟨rfl, hb1⟩
          by_cases gy : 59 < y
          · obtain ⟨rfl, rfl⟩ : V = false ∧ Z = 0 := by
              have h1 : V = false := by rw [← hV]; simp [okClock, *]
              exact ⟨h1, by rw [← hZ, h1]; rfl⟩
            clear hV hZ
            go_enter Tryz.func72, Tryz.ntmps72
            go_wp2_with (first
              | (go_at_call 98; refine (hcut.out).mono ?_; rintro e w1 ⟨A, c, rfl, ho, hb1⟩; obtain ⟨g, rfl⟩ := row_some ho (by decide); have q0 : w1.cell? ⟨g, 0, none⟩ = some (.string ⟨a.toArray⟩) := (ho.cellAt 0 (by decide)).trans rfl; have q1 : w1.cell? ⟨g, 1, none⟩ = some (.string ⟨b.toArray⟩) := (ho.cellAt 1 (by decide)).trans rfl; have q2 : w1.cell? ⟨g, 2, none⟩ = some (.string ⟨d.toArray⟩) := (ho.cellAt 2 (by decide)).trans rfl; clear ho)
              | (have _x := hy2; go_at_call 71; refine (D3.out _).mono ?_; rintro e w' ⟨rfl, rfl⟩; have hy3 := True.intro)
              | (have _x := hy1; go_at_call 71; refine (D2.out _).mono ?_; rintro e w' ⟨rfl, rfl⟩; have hy2 := True.intro)
              | (go_at_call 71; refine (D1.out _).mono ?_; rintro e w' ⟨rfl, rfl⟩; have hy1 := True.intro))
            go_ret2
            exact ⟨rfl, hb1⟩
          by_cases gz : 60 < z
          · obtain ⟨rfl, rfl⟩ : V = false ∧ Z = 0 := by
              have h1 : V = false := by rw [← hV]; simp [okClock, *]
              exact ⟨h1, by rw [← hZ, h1]; rfl⟩
            clear hV hZ
            go_enter Tryz.func72, Tryz.ntmps72
            go_wp2_with (first
              | (go_at_call 98; refine (hcut.out).mono ?_; rintro e w1 ⟨A, c, rfl, ho, hb1⟩; obtain ⟨g, rfl⟩ := row_some ho (by decide); have q0 : w1.cell? ⟨g, 0, none⟩ = some (.string ⟨a.toArray⟩) := (ho.cellAt 0 (by decide)).trans rfl; have q1 : w1.cell? ⟨g, 1, none⟩ = some (.string ⟨b.toArray⟩) := (ho.cellAt 1 (by decide)).trans rfl; have q2 : w1.cell? ⟨g, 2, none⟩ = some (.string ⟨d.toArray⟩) := (ho.cellAt 2 (by decide)).trans rfl; clear ho)
              | (have _x := hy2; go_at_call 71; refine (D3.out _).mono ?_; rintro e w' ⟨rfl, rfl⟩; have hy3 := True.intro)
              | (have _x := hy1; go_at_call 71; refine (D2.out _).mono ?_; rintro e w' ⟨rfl, rfl⟩; have hy2 := True.intro)
              | (go_at_call 71; refine (D1.out _).mono ?_; rintro e w' ⟨rfl, rfl⟩; have hy1 := True.intro))
            go_ret2
            exact ⟨rfl, hb1⟩
          obtain ⟨rfl, rfl⟩ : V = true ∧ Z = 3600 * x + 60 * y + min z 59 := by
            have h1 : V = true := by rw [← hV]; simp [okClock, *] <;> omega
            exact ⟨h1, by rw [← hZ, h1]; rfl⟩
          clear hV hZ
          go_enter Tryz.func72, Tryz.ntmps72
          go_wp2_with (first
            | (go_at_call 98; refine (hcut.out).mono ?_; rintro e w1 ⟨A, c, rfl, ho, hb1⟩; obtain ⟨g, rfl⟩ := row_some ho (by decide); have q0 : w1.cell? ⟨g, 0, none⟩ = some (.string ⟨a.toArray⟩) := (ho.cellAt 0 (by decide)).trans rfl; have q1 : w1.cell? ⟨g, 1, none⟩ = some (.string ⟨b.toArray⟩) := (ho.cellAt 1 (by decide)).trans rfl; have q2 : w1.cell? ⟨g, 2, none⟩ = some (.string ⟨d.toArray⟩) := (ho.cellAt 2 (by decide)).trans rfl; clear ho)
            | (have _x := hy2; go_at_call 71; refine (D3.out _).mono ?_; rintro e w' ⟨rfl, rfl⟩; have hy3 := True.intro)
            | (have _x := hy1; go_at_call 71; refine (D2.out _).mono ?_; rintro e w' ⟨rfl, rfl⟩; have hy2 := True.intro)
            | (go_at_call 71; refine (D1.out _).mono ?_; rintro e w' ⟨rfl, rfl⟩; have hy1 := True.intro))
          go_ret2
          exact ⟨rfl, hb1⟩
  rw [clockR_other _ h2 h3]
  generalize Pm.splitC 58 s.data.toList = L at *
  have h2' : ((L.length : Int) != 2) = true := by rw [bne_iff_ne]; omega
  have h3' : ((L.length : Int) != 3) = true := by rw [bne_iff_ne]; omega
  clear hpl hsz
  go_enter Tryz.func72, Tryz.ntmps72
  go_wp2_with (go_at_call 98; refine (hcut.out).mono ?_; rintro e w1 ⟨A, c, rfl, ho, hb1⟩; clear ho)
  all_goals go_ret2
  all_goals exact ⟨rfl, hb1⟩
end Go.Proofs.YtbhhaehdoiaihaaGreatDoor
