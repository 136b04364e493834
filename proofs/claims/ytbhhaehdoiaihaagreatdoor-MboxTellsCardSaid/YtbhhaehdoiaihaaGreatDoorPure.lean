/- Plain functions on lists of bytes and numbers: what the functions of text, date and mbox compute. No program in sight. -/
import Derived.Lib.Strings
import Derived.Lib.IndexMore
import Derived.Lib.ItoaNum
import Derived.Lib.Repeat
import Derived.Lib.TrimByte
import Derived.Lib.Bytealg
import Derived.Lib.Split
import Derived.Lib.SplitLaws
import Derived.Lib.CutLaws
import Derived.Lib.CountLaws
namespace Go.Proofs.YtbhhaehdoiaihaaGreatDoor.Pm

abbrev Bs := List UInt8

/-! ### bytes -/
def lowerI (c : Int) : Int := if 65 ≤ c ∧ c ≤ 90 then c + 32 else c
def lowB (c : UInt8) : UInt8 := if 65 ≤ c ∧ c ≤ 90 then c + 32 else c
def isWhite (c : UInt8) : Bool := c == 9 || c == 10 || c == 13 || c == 32
def whiteI (c : Int) : Bool := c == 9 || c == 10 || c == 13 || c == 32

theorem u8_lt (c : UInt8) : c.toNat < 256 := c.toNat_lt
theorem u8_eq_iff (c d : UInt8) : c = d ↔ c.toNat = d.toNat := UInt8.toNat_inj.symm

theorem lowB_toNat (c : UInt8) : ((lowB c).toNat : Int) = lowerI c.toNat := by
  unfold lowB lowerI
  have h := u8_lt c
  simp only [UInt8.le_iff_toNat_le]
  have e1 : (65 : UInt8).toNat = 65 := rfl
  have e2 : (90 : UInt8).toNat = 90 := rfl
  rw [e1, e2]
  by_cases h1 : 65 ≤ c.toNat ∧ c.toNat ≤ 90
  · rw [if_pos h1, if_pos (by omega), UInt8.toNat_add]
    have e3 : (32 : UInt8).toNat = 32 := rfl
    rw [e3]; omega
  · rw [if_neg h1, if_neg (by omega)]

theorem whiteI_of (c : UInt8) : whiteI c.toNat = isWhite c := by
  unfold whiteI isWhite
  have e : ∀ k : UInt8, ((c.toNat : Int) == (k.toNat : Int)) = (c == k) := by
    intro k
    rw [Bool.eq_iff_iff, beq_iff_eq, beq_iff_eq, u8_eq_iff]
    omega
  rw [← e 9, ← e 10, ← e 13, ← e 32]; rfl

/-! ### strings -/
def same (a b : Bs) : Bool := a.map lowB == b.map lowB
def number (s : Bs) : Option Int :=
  if s.length < 1 ∨ 15 < s.length then none
  else if s.all (fun c => 48 ≤ c && c ≤ 57) then some (s.foldl (fun n c => 10 * n + ((c.toNat : Int) - 48)) 0) else none
def digits (s : Bs) (lo hi : Int) : Option Int := if (s.length : Int) < lo ∨ hi < (s.length : Int) then none else number s
def words : Nat → Bs → List Bs
  | 0, _ => []
  | f + 1, s => match s.dropWhile isWhite with
    | [] => []
    | c :: r => ((c :: r).takeWhile (! isWhite ·)) :: words f ((c :: r).dropWhile (! isWhite ·))
def fields (s : Bs) : List Bs := words s.length s

/-- The parts of a string between the signs d. -/
def splitC (d : UInt8) : Bs → List Bs
  | [] => [[]]
  | c :: r => if c = d then [] :: splitC d r else match splitC d r with
    | [] => [[c]]
    | l :: ls => (c :: l) :: ls

/-! ### dates -/
def dayMs : Int := 86400000
def maxTime : Int := 70368744177664
def isTime (ms : Int) : Bool := 0 ≤ ms && ms ≤ maxTime
def leaps (y : Int) : Int := y / 4 - y / 100 + y / 400
def before (y : Int) : Int := 365 * (y - 1970) + leaps (y - 1) - 477
def leapY (y : Int) : Bool := y % 4 == 0 && (y % 100 != 0 || y % 400 == 0)
def mdays : Nat → Int
  | 0 => 31 | 1 => 28 | 2 => 31 | 3 => 30 | 4 => 31 | 5 => 30 | 6 => 31 | 7 => 31 | 8 => 30 | 9 => 31 | 10 => 30 | _ => 31
def leap1 (y : Int) : Int := if leapY y then 1 else 0
def daysOf (y m : Int) : Int := mdays (m - 1).toNat + (if m = 2 then leap1 y else 0)
/-- The days of the first k months of a year. -/
def cum (y : Int) : Nat → Int
  | 0 => 0
  | k + 1 => cum y k + daysOf y ((k : Int) + 1)
def dayNumber (y m d : Int) : Option Int :=
  if y < 1970 ∨ 9999 < y ∨ m < 1 ∨ 12 < m ∨ d < 1 ∨ daysOf y m < d then none else some (before y + d - 1 + cum y (m - 1).toNat)
/-- y, m, d is the civil date of day n. -/
def Civ (n y m d : Int) : Prop := 1970 ≤ y ∧ y ≤ 4200 ∧ 1 ≤ m ∧ m ≤ 12 ∧ 1 ≤ d ∧ d ≤ daysOf y m ∧ before y + d - 1 + cum y (m - 1).toNat = n

def dayName : Nat → Bs
  | 0 => [77, 111, 110] | 1 => [84, 117, 101] | 2 => [87, 101, 100] | 3 => [84, 104, 117] | 4 => [70, 114, 105] | 5 => [83, 97, 116] | _ => [83, 117, 110]
def monthName : Nat → Bs
  | 0 => [74, 97, 110] | 1 => [70, 101, 98] | 2 => [77, 97, 114] | 3 => [65, 112, 114] | 4 => [77, 97, 121] | 5 => [74, 117, 110]
  | 6 => [74, 117, 108] | 7 => [65, 117, 103] | 8 => [83, 101, 112] | 9 => [79, 99, 116] | 10 => [78, 111, 118] | _ => [68, 101, 99]
def isDay (s : Bs) : Bool := (List.range 7).any fun i => same (dayName i) s
/-- The month with a name, or 0, looked for from the k-th name on. -/
def monthFrom (s : Bs) : Nat → Nat → Int
  | 0, _ => 0
  | f + 1, k => if same (monthName k) s then (k : Int) + 1 else monthFrom s f (k + 1)
def monthOf (s : Bs) : Int := monthFrom s 12 0
def dayAt (day month : Bs) (y : Int) : Option Int := match digits day 1 2 with
  | none => none
  | some d => dayNumber y (monthOf month) d
def timeOfDay (s : Bs) : Option Int := match Lib.split s [58] with
  | [h, m, sec] => match digits h 2 2 with
    | none => none
    | some hh => if 23 < hh then none else match digits m 2 2 with
      | none => none
      | some mm => if 59 < mm then none else match digits sec 2 2 with
        | none => none
        | some ss => if 59 < ss then none else some (hh * 3600000 + mm * 60000 + min ss 59 * 1000)
  | _ => none
def unasc (s : Bs) : Option Int := match fields s with
  | [a, b, c, d, e] => if isDay a then match digits e 4 4 with
      | none => none
      | some y => match dayAt c b y with
        | none => none
        | some n => match timeOfDay d with
          | none => none
          | some t => if isTime (n * dayMs + t) then some (n * dayMs + t) else none
    else none
  | _ => none
def padded (n : Int) (size : Nat) (sign : UInt8) : Bs := List.replicate (size - (Lib.itoa n).length) sign ++ Lib.itoa n
def clock (ms : Int) : Bs := padded (ms / 3600000 % 24) 2 48 ++ [58] ++ padded (ms / 60000 % 60) 2 48 ++ [58] ++ padded (ms / 1000 % 60) 2 48
def weekday (ms : Int) : Bs := dayName ((ms / dayMs + 3) % 7).toNat
def ascOf (ms y m d : Int) : Bs := weekday ms ++ [32] ++ monthName (m - 1).toNat ++ [32] ++ padded d 2 32 ++ [32] ++ clock ms ++ [32] ++ padded y 4 48
open Classical in
noncomputable def civ (n : Int) : Int × Int × Int := if h : ∃ p : Int × Int × Int, Civ n p.1 p.2.1 p.2.2 then Classical.choose h else (0, 0, 0)
noncomputable def asctime (ms : Int) : Bs := if isTime ms then ascOf ms (civ (ms / dayMs)).1 (civ (ms / dayMs)).2.1 (civ (ms / dayMs)).2.2 else []

/-! ### mbox -/
def fromB : Bs := [70, 114, 111, 109, 32]
def first : Bs → Bs
  | [] => []
  | c :: r => if c = 10 then [c] else c :: first r
def lines : Bs → List Bs
  | [] => []
  | c :: r => if c = 10 then [c] :: lines r else match lines r with
    | [] => [[c]]
    | l :: ls => (c :: l) :: ls
def content (l : Bs) : Bs := if Lib.hasSuffix l [10] then Lib.trimSuffix (Lib.trimSuffix l [10]) [13] else l
def blank (l : Bs) : Bool := (content l).isEmpty
def hasBlank (s : Bs) : Bool := (lines s).any blank
def bare (l : Bs) : Bool := Lib.hasPrefix l fromB
def marked (l : Bs) : Bool := Lib.hasPrefix (Lib.trimLeftB l 62) fromB
structure Ent where
  sender : Bs
  date : Int
  raw : Bs
structure Dam where
  kind : Int
  at_ : Int
def sepOf (line : Bs) : Bs × Int × Bool :=
  let p := Lib.cut ((content line).drop 5) [32]
  match unasc p.2.1 with
  | none => (p.1, 0, false)
  | some t => if p.1.isEmpty then (p.1, 0, false) else (p.1, t, true)
/-- A line without the first > if it is marked and not bare. -/
def unmark (l : Bs) : Bs := match l with
  | [] => []
  | c :: r => if c = 62 ∧ marked (c :: r) then r else c :: r
def dropBlank (ls : List Bs) : List Bs := match ls.getLast? with
  | none => ls
  | some l => if blank l then ls.dropLast else ls
def rawOf (ls : List Bs) : Bs := (dropBlank ls).flatMap unmark
def setRaw : List Ent → Bs → List Ent
  | [], _ => []
  | [e], r => [{ e with raw := r }]
  | e :: es, r => e :: setRaw es r
structure St where
  ents : List Ent
  dams : List Dam
  ls : List Bs
  after : Bool
  pos : Int
def St.start : St := ⟨[], [], [], true, 0⟩
def sep? (line : Bs) : Bs × Int × Bool := if bare line then sepOf line else ([], 0, false)
def step (st : St) (line : Bs) : St :=
  let q := sep? line
  if bare line && (st.after || q.2.2) then
    { ents := setRaw st.ents (rawOf st.ls) ++ [⟨q.1, q.2.1, []⟩], dams := st.dams ++ (if q.2.2 then [] else [⟨2, st.pos⟩]) ++ (if st.after then [] else [⟨3, st.pos⟩]),
      ls := [], after := blank line, pos := st.pos + line.length }
  else if bare line then
    { ents := st.ents, dams := st.dams ++ [⟨5, st.pos⟩], ls := st.ls ++ [line], after := blank line, pos := st.pos + line.length }
  else
    { ents := st.ents, dams := st.dams ++ (if st.pos = 0 then [⟨1, st.pos⟩] else []), ls := st.ls ++ [line], after := blank line, pos := st.pos + line.length }
def run (st : St) (ls : List Bs) : St := ls.foldl step st
def closeEnts (st : St) : List Ent := setRaw st.ents (rawOf st.ls)
def endDam (es : List Ent) (n : Int) : List Dam := match es.getLast? with
  | none => []
  | some e => if hasBlank e.raw then [] else [⟨4, n⟩]
def read (s : Bs) : List Ent × List Dam :=
  let st := run St.start (lines s)
  (closeEnts st, st.dams ++ endDam (closeEnts st) s.length)

/-- A line with one more > if it is marked. -/
def mark (l : Bs) : Bs := if marked l then 62 :: l else l
noncomputable def writeOne (e : Ent) : Bs :=
  fromB ++ e.sender ++ [32] ++ asctime e.date ++ [10] ++ (lines e.raw).flatMap mark ++ (if e.raw.isEmpty || Lib.hasSuffix e.raw [10] then [] else [10]) ++ [10]
noncomputable def write (l : List Ent) : Bs := l.flatMap writeOne
noncomputable def clean (e : Ent) : Bool :=
  (1 ≤ e.sender.length && e.sender.length ≤ 200) && e.sender.all (fun c => 33 ≤ c && c ≤ 126) && !(asctime e.date).isEmpty && e.date.tmod 1000 == 0 && Lib.hasSuffix e.raw [10] && hasBlank e.raw

/-! ### small facts for the walks -/
theorem indexByte_miss (l : Bs) (c : UInt8) (h : Lib.indexByte l c = -1) : ∀ x ∈ l, x ≠ c := by
  induction l with
  | nil => simp
  | cons b l ih =>
    unfold Lib.indexByte at h
    have g := Lib.indexByte_ge l c
    by_cases e : b = c
    · simp [e] at h
    · by_cases e2 : Lib.indexByte l c = -1
      · intro x hx
        rcases List.mem_cons.1 hx with rfl | hx
        · exact e
        · exact ih e2 x hx
      · simp [e, e2] at h; omega
theorem indexByte_hit (l : Bs) (c : UInt8) (i : Nat) (h : Lib.indexByte l c = (i : Int)) : l[i]? = some c ∧ ∀ x ∈ l.take i, x ≠ c := by
  induction l generalizing i with
  | nil => simp [Lib.indexByte] at h <;> omega
  | cons b l ih =>
    unfold Lib.indexByte at h
    have g := Lib.indexByte_ge l c
    by_cases e : b = c
    · simp [e] at h
      obtain rfl : i = 0 := by omega
      subst e; simp
    · by_cases e2 : Lib.indexByte l c = -1
      · simp [e, e2] at h
      · simp [e, e2] at h
        cases i with
        | zero => omega
        | succ j =>
          obtain ⟨a, b'⟩ := ih j (by omega)
          refine ⟨by simpa using a, ?_⟩
          intro x hx
          rw [List.take_succ_cons] at hx
          rcases List.mem_cons.1 hx with rfl | hx
          · exact e
          · exact b' x hx
theorem first_miss (l : Bs) (h : ∀ x ∈ l, x ≠ 10) : first l = l := by
  induction l with
  | nil => rfl
  | cons b l ih => unfold first; rw [if_neg (h b (by simp)), ih (fun x hx => h x (by simp [hx]))]
theorem first_hit (l : Bs) (i : Nat) (h : l[i]? = some 10) (h2 : ∀ x ∈ l.take i, x ≠ 10) : first l = l.take (i + 1) := by
  induction l generalizing i with
  | nil => simp at h
  | cons b l ih =>
    unfold first
    cases i with
    | zero => simp at h; simp [h]
    | succ j =>
      rw [if_neg (h2 b (by simp)), List.take_succ_cons, ih j (by simpa using h) (fun x hx => h2 x (by simp [hx]))]
theorem first_length (l : Bs) : (first l).length ≤ l.length := by
  induction l with
  | nil => simp [first]
  | cons b l ih => unfold first; split <;> simp <;> omega
theorem first_pos (l : Bs) (h : l ≠ []) : 0 < (first l).length := by
  cases l with
  | nil => exact absurd rfl h
  | cons b l => unfold first; split <;> simp
theorem first_take (l : Bs) : first l = l.take (first l).length := by
  induction l with
  | nil => rfl
  | cons b l ih =>
    unfold first
    split
    · simp
    · rw [List.length_cons, List.take_succ_cons, ← ih]
theorem lines_cons (b : UInt8) (r : Bs) : lines (b :: r) = if b = 10 then [b] :: lines r else match lines r with
    | [] => [[b]]
    | l :: ls => (b :: l) :: ls := rfl
theorem first_cons (b : UInt8) (r : Bs) : first (b :: r) = if b = 10 then [b] else b :: first r := rfl
theorem lines_eq (l : Bs) (h : l ≠ []) : lines l = first l :: lines (l.drop (first l).length) := by
  induction l with
  | nil => exact absurd rfl h
  | cons b l ih =>
    rw [lines_cons, first_cons]
    by_cases e : b = 10
    · simp [e]
    · simp only [e, if_false, List.length_cons, List.drop_succ_cons]
      cases l with
      | nil => rfl
      | cons c r => rw [ih (by simp)]
theorem lines_first (l : Bs) : ∀ x ∈ lines l, x ≠ [] := by
  induction l with
  | nil => simp [lines]
  | cons b l ih =>
    unfold lines
    split
    · intro x hx
      rcases List.mem_cons.1 hx with rfl | hx
      · simp
      · exact ih x hx
    · split
      · simp
      · next l' ls e =>
        intro x hx
        rcases List.mem_cons.1 hx with rfl | hx
        · simp
        · exact ih x (by rw [e]; simp [hx])
theorem lines_flatten (l : Bs) : (lines l).flatten = l := by
  induction l with
  | nil => rfl
  | cons b l ih =>
    unfold lines
    split
    · simp [ih]
    · split
      · next e => rw [e] at ih; simp at ih; simp [← ih]
      · next l' ls e => rw [e] at ih; simp at ih; simp [ih]

/-! the words of a string -/
theorem words_fuel (f : Nat) : ∀ (g : Nat) (l : Bs), l.length ≤ f → l.length ≤ g → words f l = words g l := by
  induction f with
  | zero =>
    intro g l hf _
    have : l = [] := List.eq_nil_of_length_eq_zero (by omega)
    subst this
    cases g <;> simp [words]
  | succ f ih =>
    intro g l hf hg
    cases g with
    | zero =>
      have : l = [] := List.eq_nil_of_length_eq_zero (by omega)
      subst this
      simp [words]
    | succ g =>
      unfold words
      have hle : (l.dropWhile isWhite).length ≤ l.length := List.dropWhile_sublist _ |>.length_le
      split
      · rfl
      · next c r e =>
        have hnw : isWhite c = false := by
          have := List.head?_dropWhile_not isWhite l
          rw [e] at this; simpa using this
        have h1 : ((c :: r).dropWhile (! isWhite ·)).length ≤ r.length := by
          rw [List.dropWhile_cons_of_pos (by simp [hnw])]
          exact List.dropWhile_sublist _ |>.length_le
        rw [e] at hle
        simp only [List.length_cons] at hle
        rw [ih g _ (by omega) (by omega)]
theorem fields_nil : fields [] = [] := rfl
theorem fields_white (c : UInt8) (r : Bs) (h : isWhite c = true) : fields (c :: r) = fields r := by
  unfold fields
  rw [words_fuel r.length (r.length + 1) r (by omega) (by omega)]
  show words (r.length + 1) (c :: r) = words (r.length + 1) r
  unfold words
  rw [List.dropWhile_cons_of_pos h]
theorem fields_word (c : UInt8) (r : Bs) (h : isWhite c = false) : fields (c :: r) = (c :: r).takeWhile (! isWhite ·) :: fields ((c :: r).dropWhile (! isWhite ·)) := by
  have h1 : ((c :: r).dropWhile (! isWhite ·)).length ≤ r.length := by
    rw [List.dropWhile_cons_of_pos (by simp [h])]
    exact List.dropWhile_sublist _ |>.length_le
  unfold fields
  rw [words_fuel _ r.length ((c :: r).dropWhile (! isWhite ·)) (Nat.le_refl _) h1]
  show words (r.length + 1) (c :: r) = _
  conv => lhs; unfold words
  rw [List.dropWhile_cons_of_neg (by simp [h])]

end Go.Proofs.YtbhhaehdoiaihaaGreatDoor.Pm
