/- Plain law: what Read makes of what Write wrote. No program in sight. -/
import Derived.Test.YtbhhaehdoiaihaaGreatDoorQa
import Derived.Test.YtbhhaehdoiaihaaGreatDoorPb
import Derived.Test.YtbhhaehdoiaihaaGreatDoorZd
namespace Go.Proofs.YtbhhaehdoiaihaaGreatDoor.Pm

/-- A whole line: it ends with its only LF. -/
def Ln (l : Bs) : Prop := ∃ w, l = w ++ [10] ∧ ∀ x ∈ w, x ≠ 10
theorem lines_one (w R : Bs) (h : ∀ x ∈ w, x ≠ 10) : lines (w ++ 10 :: R) = (w ++ [10]) :: lines R := by
  induction w with
  | nil => rfl
  | cons c w ih =>
    have h1 : c ≠ 10 := h c (by simp)
    rw [List.cons_append, lines_cons, if_neg h1, ih (fun x hx => h x (by simp [hx]))]
    rfl
theorem lines_flat (L : List Bs) (R : Bs) (h : ∀ l ∈ L, Ln l) : lines (L.flatten ++ R) = L ++ lines R := by
  induction L with
  | nil => rfl
  | cons a L ih =>
    obtain ⟨w, rfl, hw⟩ := h a (by simp)
    rw [List.flatten_cons, List.append_assoc, List.append_assoc, List.cons_append, List.nil_append, lines_one _ _ hw, ih (fun l hl => h l (by simp [hl]))]
    rfl
theorem lines_all (s : Bs) (h : Lib.hasSuffix s [10] = true) : ∀ l ∈ lines s, Ln l := by
  unfold Lib.hasSuffix at h
  rw [List.isSuffixOf_iff_suffix] at h
  obtain ⟨t, rfl⟩ := h
  induction t with
  | nil => intro l hl; simp [lines] at hl; subst hl; exact ⟨[], rfl, by simp⟩
  | cons c t ih =>
    intro l hl
    rw [List.cons_append, lines_cons] at hl
    split at hl
    · next e =>
      rcases List.mem_cons.1 hl with rfl | hl
      · subst e; exact ⟨[], rfl, by simp⟩
      · exact ih l hl
    · next e =>
      have hne : lines (t ++ [10]) ≠ [] := by
        intro e2; have := lines_flatten (t ++ [10]); rw [e2] at this; simp at this
      cases hL : lines (t ++ [10]) with
      | nil => exact absurd hL hne
      | cons a bs =>
        rw [hL] at hl ih
        rcases List.mem_cons.1 hl with rfl | hl
        · obtain ⟨w, rfl, hw⟩ := ih a (by simp)
          refine ⟨c :: w, rfl, ?_⟩
          intro x hx
          rcases List.mem_cons.1 hx with rfl | hx
          · exact e
          · exact hw x hx
        · exact ih l (by simp [hl])
theorem mark_Ln (l : Bs) (h : Ln l) : Ln (mark l) := by
  unfold mark
  split
  · obtain ⟨w, rfl, hw⟩ := h
    refine ⟨62 :: w, rfl, ?_⟩
    intro x hx
    rcases List.mem_cons.1 hx with rfl | hx
    · decide
    · exact hw x hx
  · exact h
theorem bare_marked (l : Bs) (h : bare l = true) : marked l = true := by
  unfold bare Lib.hasPrefix at h
  rw [List.isPrefixOf_iff_prefix] at h
  obtain ⟨r, rfl⟩ := h
  rfl
theorem mark_not_bare (l : Bs) : bare (mark l) = false := by
  unfold mark
  cases h : marked l with
  | true => rfl
  | false =>
    rw [Bool.eq_false_iff]
    intro e
    simp only [Bool.false_eq_true, if_false] at e
    rw [bare_marked l e] at h; cases h
theorem marked_cons (l : Bs) : marked (62 :: l) = marked l := by
  unfold marked Lib.trimLeftB
  rw [List.dropWhile_cons_of_pos (by decide)]
theorem unmark_mark (l : Bs) : unmark (mark l) = l := by
  unfold mark
  cases h : marked l with
  | true =>
    simp only [if_true]
    unfold unmark
    exact if_pos ⟨rfl, by rw [marked_cons]; exact h⟩
  | false =>
    simp only [Bool.false_eq_true, if_false]
    unfold unmark
    split
    · rfl
    · next c r => rw [if_neg (by rintro ⟨_, e⟩; rw [h] at e; cases e)]
theorem flat_unmark_mark (L : List Bs) : (L.map mark).flatMap unmark = L.flatten := by
  induction L with
  | nil => rfl
  | cons a L ih => rw [List.map_cons, List.flatMap_cons, unmark_mark, ih, List.flatten_cons]
theorem dropBlank_lf (L : List Bs) : dropBlank (L ++ [[10]]) = L := by
  unfold dropBlank
  rw [List.getLast?_concat]
  dsimp only
  rw [if_pos (by decide), List.dropLast_concat]
theorem rawOf_chunk (s : Bs) : rawOf ((lines s).map mark ++ [[10]]) = s := by
  unfold rawOf
  rw [dropBlank_lf, flat_unmark_mark, lines_flatten]

/-- What a clean entry is. -/
structure CleanE (e : Ent) : Prop where
  s0 : e.sender ≠ []
  s1 : e.sender.length ≤ 200
  sc : ∀ c ∈ e.sender, 33 ≤ c ∧ c ≤ 126
  time : isTime e.date = true
  sec : e.date % 1000 = 0
  lf : Lib.hasSuffix e.raw [10] = true
  bl : hasBlank e.raw = true
theorem cleanE_of (e : Ent) (h : clean e = true) : CleanE e := by
  unfold clean at h
  simp only [Bool.and_eq_true, decide_eq_true_eq, Bool.not_eq_true', beq_iff_eq, List.all_eq_true] at h
  obtain ⟨⟨⟨⟨⟨⟨h1, h2⟩, h3⟩, h4⟩, h5⟩, h6⟩, h7⟩ := h
  have ht : isTime e.date = true := by
    cases hv : isTime e.date with
    | true => rfl
    | false => unfold asctime at h4; rw [hv] at h4; simp at h4
  have h0 : 0 ≤ e.date := by
    have := ht; unfold isTime at this; simp only [Bool.and_eq_true, decide_eq_true_eq] at this; exact this.1
  refine ⟨by intro e0; rw [e0] at h1; simp at h1, h2, h3, ht, ?_, h6, h7⟩
  rw [← Int.tmod_eq_emod_of_nonneg h0]; exact h5

def sepLine (s d : Bs) : Bs := fromB ++ s ++ [32] ++ d ++ [10]
/-- The lines of one written entry. -/
def chunk (sl raw : Bs) : List Bs := sl :: ((lines raw).map mark ++ [[10]])

theorem sender_ne (e : Ent) (h : CleanE e) (k : UInt8) (hk : k < 33) : ∀ c ∈ e.sender, c ≠ k := by
  intro c hc e1
  have := (h.sc c hc).1
  rw [e1] at this
  exact absurd (UInt8.lt_of_lt_of_le hk this) (UInt8.lt_irrefl _)
def good (c : UInt8) : Prop := c ≠ 10 ∧ c ≠ 13
theorem good_dig (c : UInt8) (h : dig8 c = true) : good c := by
  unfold dig8 at h
  simp only [Bool.and_eq_true, decide_eq_true_eq] at h
  refine ⟨?_, ?_⟩ <;> (rintro rfl; exact absurd h.1 (by decide))
theorem dec_good (u : Nat) : ∀ c ∈ Lib.decDigits u, good c := by
  induction u using Nat.strongRecOn with
  | _ u ih =>
    intro c hc
    by_cases h : u < 10
    · rw [Lib.decDigits_one h] at hc
      simp only [List.mem_singleton] at hc
      rw [hc]; exact good_dig _ (dig1 u h).1
    · rw [Lib.decDigits, dif_neg h] at hc
      rcases List.mem_append.1 hc with hc | hc
      · exact ih (u / 10) (by omega) c hc
      · simp only [List.mem_singleton] at hc
        rw [hc]; exact good_dig _ (dig1 (u % 10) (by omega)).1
theorem padded_good (n : Int) (k : Nat) (s : UInt8) (h0 : 0 ≤ n) (hs : good s) : ∀ c ∈ padded n k s, good c := by
  intro c hc
  unfold padded at hc
  rcases List.mem_append.1 hc with hc | hc
  · rw [(List.mem_replicate.1 hc).2]; exact hs
  · obtain ⟨u, rfl⟩ : ∃ u : Nat, n = u := ⟨n.toNat, by omega⟩
    rw [itoa_nat] at hc
    exact dec_good u c hc
theorem nonW_good (l : Bs) (h : nonW l = true) : ∀ c ∈ l, good c := by
  intro c hc
  have := List.all_eq_true.1 h c hc
  constructor <;> (rintro rfl; exact absurd this (by decide))
theorem asc_chars (ms : Int) : ∀ c ∈ asctime ms, good c := by
  cases hv : isTime ms with
  | false => rw [asctime_no hv]; simp
  | true =>
    have h0 : 0 ≤ ms ∧ ms ≤ 70368744177664 := by unfold isTime maxTime at hv; simpa using hv
    obtain ⟨y, m, d, hc⟩ := civ_exists (ms / dayMs) (by unfold dayMs; omega) (by unfold dayMs; omega)
    rw [asctime_eq hv hc]
    obtain ⟨c1, c2, c3, c4, c5, c6, _⟩ := hc
    have g32 : good 32 := ⟨by decide, by decide⟩
    have g48 : good 48 := ⟨by decide, by decide⟩
    have g58 : good 58 := ⟨by decide, by decide⟩
    intro c hc
    unfold ascOf clock at hc
    simp only [List.mem_append, List.mem_singleton] at hc
    rcases hc with (((((((hc | hc) | hc) | hc) | hc) | hc) | ((((hc | hc) | hc) | hc) | hc)) | hc) | hc
    · exact nonW_good _ (dayName_nonW _) c hc
    · rw [hc]; exact g32
    · exact nonW_good _ (monthName_nonW _) c hc
    · rw [hc]; exact g32
    · exact padded_good d 2 32 (by omega) g32 c hc
    · rw [hc]; exact g32
    · exact padded_good _ 2 48 (by omega) g48 c hc
    · rw [hc]; exact g58
    · exact padded_good _ 2 48 (by omega) g48 c hc
    · rw [hc]; exact g58
    · exact padded_good _ 2 48 (by omega) g48 c hc
    · rw [hc]; exact g32
    · exact padded_good y 4 48 (by omega) g48 c hc
theorem sepLine_Ln (s d : Bs) (hs : ∀ c ∈ s, c ≠ 10) (hd : ∀ c ∈ d, c ≠ 10) : Ln (sepLine s d) := by
  refine ⟨fromB ++ s ++ [32] ++ d, rfl, ?_⟩
  intro x hx
  simp only [List.mem_append, List.mem_singleton] at hx
  rcases hx with ((hx | hx) | hx) | hx
  · unfold fromB at hx; simp at hx; rcases hx with rfl | rfl | rfl | rfl | rfl <;> decide
  · exact hs x hx
  · rw [hx]; decide
  · exact hd x hx
theorem sepLine_bare (s d : Bs) : bare (sepLine s d) = true := by
  unfold bare Lib.hasPrefix
  rw [List.isPrefixOf_iff_prefix]
  exact ⟨s ++ [32] ++ d ++ [10], by simp [sepLine]⟩
theorem writeOne_chunk (e : Ent) (h : CleanE e) : writeOne e = (chunk (sepLine e.sender (asctime e.date)) e.raw).flatten := by
  rw [writeOne_some e (.inr h.lf)]
  unfold chunk sepLine
  rw [List.flatten_cons, List.flatten_append, List.flatMap_def]
  simp
theorem chunk_Ln (sl raw : Bs) (hs : Ln sl) (hr : Lib.hasSuffix raw [10] = true) : ∀ l ∈ chunk sl raw, Ln l := by
  intro l hl
  unfold chunk at hl
  rcases List.mem_cons.1 hl with rfl | hl
  · exact hs
  · rcases List.mem_append.1 hl with hl | hl
    · obtain ⟨a, ha, rfl⟩ := List.mem_map.1 hl
      exact mark_Ln a (lines_all raw hr a ha)
    · simp at hl; subst hl; exact ⟨[], rfl, by simp⟩

/-! ### running over lines -/
theorem run_nil (st : St) : run st [] = st := rfl
theorem run_cons (st : St) (l : Bs) (ls : List Bs) : run st (l :: ls) = run (step st l) ls := rfl
theorem run_append (st : St) (A B : List Bs) : run st (A ++ B) = run (run st A) B := List.foldl_append ..
theorem run_snoc (st : St) (A : List Bs) (l : Bs) : run st (A ++ [l]) = step (run st A) l := by rw [run_append]; rfl
theorem step_plain (es : List Ent) (ds : List Dam) (ls : List Bs) (af : Bool) (k : Int) (f : Bs) (hb : bare f = false) (hk : k ≠ 0) :
    step ⟨es, ds, ls, af, k⟩ f = ⟨es, ds, ls ++ [f], blank f, k + f.length⟩ := by simp [step, hb, hk]
theorem step_sep (st : St) (f : Bs) (hb : bare f = true) (ha : st.after = true) :
    step st f = ⟨closeEnts st ++ [⟨(sepOf f).1, (sepOf f).2.1, []⟩], st.dams ++ (if (sepOf f).2.2 then [] else [⟨2, st.pos⟩]), [], blank f, st.pos + f.length⟩ := by
  unfold step sep? closeEnts
  rw [hb, ha]
  simp
theorem run_plains (L : List Bs) (es : List Ent) (ds : List Dam) (ls : List Bs) (af : Bool) (k : Int) (hk : 0 < k) (h : ∀ l ∈ L, bare l = false) :
    ∃ af', run ⟨es, ds, ls, af, k⟩ L = ⟨es, ds, ls ++ L, af', k + L.flatten.length⟩ ∧ (∀ A x, L = A ++ [x] → af' = blank x) := by
  induction L generalizing ls af k with
  | nil => exact ⟨af, by simp [run], fun A x e => by simp at e⟩
  | cons a L ih =>
    rw [run_cons, step_plain es ds ls af k a (h a (by simp)) (by omega)]
    obtain ⟨af', h1, h2⟩ := ih (ls ++ [a]) (blank a) (k + a.length) (by omega) (fun l hl => h l (by simp [hl]))
    refine ⟨af', ?_, ?_⟩
    · rw [h1]; simp; omega
    · intro A x e
      cases A with
      | nil =>
        simp at e
        obtain ⟨rfl, rfl⟩ := e
        simp [run] at h1
        exact h1.symm
      | cons b A =>
        simp at e
        exact h2 A x e.2
theorem bare_ne (l : Bs) (h : bare l = true) : 0 < l.length := by have := bare_len l h; omega
theorem run_chunk (st : St) (sl raw : Bs) (ha : st.after = true) (hp : 0 ≤ st.pos) (hb : bare sl = true) :
    run st (chunk sl raw) = ⟨closeEnts st ++ [⟨(sepOf sl).1, (sepOf sl).2.1, []⟩], st.dams ++ (if (sepOf sl).2.2 then [] else [⟨2, st.pos⟩]), (lines raw).map mark ++ [[10]], true, st.pos + (chunk sl raw).flatten.length⟩ := by
  have h0 := bare_ne sl hb
  unfold chunk
  rw [run_cons, step_sep st sl hb ha]
  obtain ⟨af', h1, h2⟩ := run_plains ((lines raw).map mark ++ [[10]]) (closeEnts st ++ [⟨(sepOf sl).1, (sepOf sl).2.1, []⟩]) (st.dams ++ (if (sepOf sl).2.2 then [] else [⟨2, st.pos⟩])) [] (blank sl) (st.pos + sl.length) (by omega)
    (by
      intro l hl
      rcases List.mem_append.1 hl with hl | hl
      · obtain ⟨a, _, rfl⟩ := List.mem_map.1 hl; exact mark_not_bare a
      · simp at hl; subst hl; decide)
  rw [h1, h2 _ _ rfl]
  have e1 : blank [10] = true := by decide
  rw [e1, List.nil_append, List.flatten_cons, List.length_append]
  congr 1
  omega
theorem setRaw_snoc' (es : List Ent) (e : Ent) (r : Bs) : setRaw (es ++ [e]) r = es ++ [{ e with raw := r }] := by
  induction es with
  | nil => rfl
  | cons a es ih =>
    cases es with
    | nil => rfl
    | cons f fs => simp only [List.cons_append, setRaw] at ih ⊢; rw [ih]
theorem setRaw_app (es X : List Ent) (r : Bs) (hX : X ≠ []) : setRaw (es ++ X) r = es ++ setRaw X r := by
  rcases List.eq_nil_or_concat X with rfl | ⟨L, x, rfl⟩
  · exact absurd rfl hX
  · rw [List.concat_eq_append, setRaw_snoc', ← List.append_assoc, setRaw_snoc', List.append_assoc]

theorem no_suffix (A B : Bs) (k : UInt8) (hB : B ≠ []) (h : ∀ c ∈ B, c ≠ k) : Lib.hasSuffix (A ++ B) [k] = false := by
  rw [Bool.eq_false_iff]
  unfold Lib.hasSuffix
  rw [Ne, List.isSuffixOf_iff_suffix]
  rintro ⟨t, ht⟩
  have e := congrArg List.getLast? ht
  rw [List.getLast?_concat] at e
  rcases List.eq_nil_or_concat B with rfl | ⟨L, x, rfl⟩
  · exact hB rfl
  · rw [List.concat_eq_append, ← List.append_assoc, List.getLast?_concat] at e
    injection e with e
    exact h x (by simp) e.symm
theorem index_one (s d : Bs) (h : ∀ c ∈ s, c ≠ 32) : Lib.index (s ++ 32 :: d) [32] = s.length := by
  induction s with
  | nil => simp [Lib.index, List.isPrefixOf]
  | cons c s ih =>
    have h1 := ih (fun c hc => h c (by simp [hc]))
    have hc : (32 == c) = false := by rw [beq_eq_false_iff_ne]; exact Ne.symm (h c (by simp))
    rw [List.cons_append]
    unfold Lib.index
    rw [h1]
    have h2 : (([32] : Bs).isPrefixOf (c :: (s ++ 32 :: d))) = false := by simp [List.isPrefixOf, hc]
    rw [h2]
    have h3 : (((s.length : Nat) : Int) == -1) = false := by rw [beq_eq_false_iff_ne]; omega
    rw [h3]
    simp
theorem cut_one (s d : Bs) (h : ∀ c ∈ s, c ≠ 32) : Lib.cut (s ++ 32 :: d) [32] = (s, d, true) := by
  unfold Lib.cut
  rw [index_one s d h]
  have h3 : (((s.length : Nat) : Int) == -1) = false := by rw [beq_eq_false_iff_ne]; omega
  simp [h3]
theorem content_sep (s d : Bs) (hd : ∀ c ∈ d, c ≠ 13) : content (sepLine s d) = fromB ++ s ++ 32 :: d := by
  have h1 : Lib.hasSuffix (sepLine s d) [10] = true := by
    unfold Lib.hasSuffix
    rw [List.isSuffixOf_iff_suffix]
    exact ⟨fromB ++ s ++ [32] ++ d, rfl⟩
  have h2 : Lib.trimSuffix (sepLine s d) [10] = fromB ++ s ++ 32 :: d := by
    unfold Lib.trimSuffix
    rw [if_pos h1]
    unfold sepLine
    rw [List.take_append_of_le_length (by simp; omega), List.take_of_length_le (by simp; omega)]
    simp
  have h3 : Lib.hasSuffix (fromB ++ s ++ 32 :: d) [13] = false := no_suffix (fromB ++ s) (32 :: d) 13 (by simp) (by
    intro c hc
    rcases List.mem_cons.1 hc with rfl | hc
    · decide
    · exact hd c hc)
  unfold content
  rw [if_pos h1, h2]
  unfold Lib.trimSuffix
  rw [h3]; rfl
theorem sep_parts (s d : Bs) (hsp : ∀ c ∈ s, c ≠ 32) (hd : ∀ c ∈ d, c ≠ 13) : Lib.cut ((content (sepLine s d)).drop 5) [32] = (s, d, true) := by
  rw [content_sep s d hd]
  have : (fromB ++ s ++ 32 :: d).drop 5 = s ++ 32 :: d := by unfold fromB; simp
  rw [this, cut_one s d hsp]
theorem sepOf_good (s d : Bs) (t : Int) (hs : s ≠ []) (hsp : ∀ c ∈ s, c ≠ 32) (hd : ∀ c ∈ d, c ≠ 13) (ht : unasc d = some t) : sepOf (sepLine s d) = (s, t, true) := by
  unfold sepOf
  dsimp only
  rw [sep_parts s d hsp hd]
  dsimp only
  rw [ht]
  simp [hs]
theorem sepOf_bad (s d : Bs) (hsp : ∀ c ∈ s, c ≠ 32) (hd : ∀ c ∈ d, c ≠ 13) (ht : unasc d = none) : sepOf (sepLine s d) = (s, 0, false) := by
  unfold sepOf
  dsimp only
  rw [sep_parts s d hsp hd]
  dsimp only
  rw [ht]
theorem unasc_asc (ms : Int) (h : isTime ms = true) (hs : ms % 1000 = 0) : unasc (asctime ms) = some ms := by
  have h0 : 0 ≤ ms ∧ ms ≤ 70368744177664 := by unfold isTime maxTime at h; simpa using h
  obtain ⟨y, m, d, hc⟩ := civ_exists (ms / dayMs) (by unfold dayMs; omega) (by unfold dayMs; omega)
  rw [asctime_eq h hc]
  exact unasc_ascOf ms y m d h hs hc

/-- The separator of a clean entry. -/
noncomputable abbrev sl (e : Ent) : Bs := sepLine e.sender (asctime e.date)
theorem sl_Ln (e : Ent) (h : CleanE e) : Ln (sl e) := sepLine_Ln _ _ (sender_ne e h 10 (by decide)) (fun c hc => (asc_chars _ c hc).1)
theorem sl_sep (e : Ent) (h : CleanE e) : sepOf (sl e) = (e.sender, e.date, true) :=
  sepOf_good _ _ _ h.s0 (sender_ne e h 32 (by decide)) (fun c hc => (asc_chars _ c hc).2) (unasc_asc e.date h.time h.sec)
theorem run_entry (st : St) (e : Ent) (h : CleanE e) (ha : st.after = true) (hp : 0 ≤ st.pos) :
    run st (chunk (sl e) e.raw) = ⟨closeEnts st ++ [⟨e.sender, e.date, []⟩], st.dams, (lines e.raw).map mark ++ [[10]], true, st.pos + (writeOne e).length⟩ := by
  rw [run_chunk st (sl e) e.raw ha hp (sepLine_bare _ _), sl_sep e h, writeOne_chunk e h]
  simp
theorem close_entry (E : List Ent) (e : Ent) (ds : List Dam) (af : Bool) (k : Int) : closeEnts ⟨E ++ [⟨e.sender, e.date, []⟩], ds, (lines e.raw).map mark ++ [[10]], af, k⟩ = E ++ [e] := by
  unfold closeEnts
  rw [rawOf_chunk, setRaw_snoc']
/-- All the lines of what is written. -/
noncomputable def chunks (es : List Ent) : List Bs := es.flatMap fun e => chunk (sl e) e.raw
theorem chunks_Ln (es : List Ent) (h : ∀ e ∈ es, CleanE e) : ∀ l ∈ chunks es, Ln l := by
  intro l hl
  obtain ⟨e, he, hl⟩ := List.mem_flatMap.1 hl
  exact chunk_Ln _ _ (sl_Ln e (h e he)) (h e he).lf l hl
theorem write_chunks (es : List Ent) (h : ∀ e ∈ es, CleanE e) : write es = (chunks es).flatten := by
  induction es with
  | nil => rfl
  | cons e es ih =>
    have := ih (fun x hx => h x (by simp [hx]))
    unfold write chunks at this ⊢
    rw [List.flatMap_cons, List.flatMap_cons, List.flatten_append, ← this, writeOne_chunk e (h e (by simp))]
theorem run_write (es : List Ent) (st : St) (h : ∀ e ∈ es, CleanE e) (ha : st.after = true) (hp : 0 ≤ st.pos) :
    ∃ st', run st (chunks es) = st' ∧ closeEnts st' = closeEnts st ++ es ∧ st'.dams = st.dams ∧ st'.after = true ∧ st'.pos = st.pos + (write es).length := by
  induction es generalizing st with
  | nil => exact ⟨st, rfl, by simp, rfl, ha, by simp [write]⟩
  | cons e es ih =>
    have he := h e (by simp)
    obtain ⟨st', h1, h2, h3, h4, h5⟩ := ih ⟨closeEnts st ++ [⟨e.sender, e.date, []⟩], st.dams, (lines e.raw).map mark ++ [[10]], true, st.pos + (writeOne e).length⟩
      (fun x hx => h x (by simp [hx])) rfl (by show 0 ≤ st.pos + _; omega)
    refine ⟨st', ?_, ?_, h3, h4, ?_⟩
    · have : chunks (e :: es) = chunk (sl e) e.raw ++ chunks es := by unfold chunks; rw [List.flatMap_cons]
      rw [this, run_append, run_entry st e he ha hp, h1]
    · rw [h2, close_entry]; simp
    · rw [h5]
      unfold write
      rw [List.flatMap_cons, List.length_append]
      show st.pos + _ + _ = _
      omega
theorem lines_write (es : List Ent) (R : Bs) (h : ∀ e ∈ es, CleanE e) : lines (write es ++ R) = chunks es ++ lines R := by
  rw [write_chunks es h, lines_flat _ _ (chunks_Ln es h)]
theorem endDam_blank (es : List Ent) (n : Int) (h : ∀ e ∈ es, hasBlank e.raw = true) : endDam es n = [] := by
  unfold endDam
  split
  · rfl
  · next e he => rw [if_pos (h e (List.mem_of_getLast? he))]
/-- Reading what was written. -/
theorem read_write (es : List Ent) (h : ∀ e ∈ es, CleanE e) : read (write es) = (es, []) := by
  obtain ⟨st', h1, h2, h3, h4, h5⟩ := run_write es St.start h rfl (by decide)
  have hl : lines (write es) = chunks es := by
    have := lines_write es [] h
    rw [List.append_nil] at this
    rw [this]; simp [lines]
  unfold read
  dsimp only
  rw [hl, h1, h2, h3]
  have : closeEnts St.start ++ es = es := rfl
  rw [this, endDam_blank es _ (fun e he => (h e he).bl)]
  rfl

/-- The same run, with entries es and n bytes ahead. -/
structure Sim (es : List Ent) (n : Int) (A B : St) : Prop where
  ents : A.ents = es ++ B.ents
  ne : B.ents ≠ []
  dams : A.dams = B.dams.map fun d => ⟨d.kind, d.at_ + n⟩
  ls : A.ls = B.ls
  after : A.after = B.after
  pos : A.pos = B.pos + n
  lt : 0 < B.pos
theorem sim_step (es : List Ent) (n : Int) (hn : 0 ≤ n) (A B : St) (l : Bs) (h : Sim es n A B) : Sim es n (step A l) (step B l) := by
  obtain ⟨e1, d1, l1, a1, p1⟩ := A
  obtain ⟨e2, d2, l2, a2, p2⟩ := B
  obtain ⟨h1, h2, h3, h4, h5, h6, h7⟩ := h
  dsimp only at h1 h2 h3 h4 h5 h6 h7
  subst h1 h3 h4 h5 h6
  have hp : p2 ≠ 0 := by omega
  have hp1 : p2 + n ≠ 0 := by omega
  unfold step
  simp only [setRaw_app es e2 _ h2]
  split
  · refine ⟨by simp, by simp, ?_, rfl, rfl, by simp; omega, by simp; omega⟩
    simp only [List.map_append]
    congr 1
    · congr 1
      split <;> simp
    · split <;> simp
  · split
    · exact ⟨rfl, h2, by simp, rfl, rfl, by simp; omega, by simp; omega⟩
    · exact ⟨rfl, h2, by simp [hp, hp1], rfl, rfl, by simp; omega, by simp; omega⟩
theorem sim_run (es : List Ent) (n : Int) (hn : 0 ≤ n) (L : List Bs) (A B : St) (h : Sim es n A B) : Sim es n (run A L) (run B L) := by
  induction L generalizing A B with
  | nil => exact h
  | cons l L ih => exact ih _ _ (sim_step es n hn A B l h)
theorem sim_start (es : List Ent) (st : St) (l : Bs) (hb : bare l = true) (ha : st.after = true) (hc : closeEnts st = es) (hd : st.dams = []) (hp : 0 ≤ st.pos) : Sim es st.pos (step st l) (step St.start l) := by
  have h0 := bare_ne l hb
  rw [step_sep st l hb ha, step_sep St.start l hb rfl, hc, hd]
  refine ⟨rfl, by simp, ?_, rfl, rfl, ?_, ?_⟩
  · show _ = List.map _ ([] ++ _)
    split
    · rfl
    · show _ = [(⟨2, 0 + st.pos⟩ : Dam)]
      simp
  · show st.pos + _ = 0 + _ + st.pos; omega
  · show 0 < 0 + (l.length : Int); omega
theorem first_from (more : Bs) : ∃ f R, lines (fromB ++ more) = f :: R ∧ bare f = true := by
  have h := lines_eq (fromB ++ more) (by simp [fromB])
  refine ⟨_, _, h, ?_⟩
  unfold bare Lib.hasPrefix
  rw [List.isPrefixOf_iff_prefix]
  exact ⟨first more, rfl⟩
theorem last_app {α : Type} (A B : List α) (h : B ≠ []) : (A ++ B).getLast? = B.getLast? := by
  rcases List.eq_nil_or_concat B with rfl | ⟨L, x, rfl⟩
  · exact absurd rfl h
  · rw [List.concat_eq_append, ← List.append_assoc, List.getLast?_concat, List.getLast?_concat]
/-- Reading what was written with something behind it that begins with a bare line. -/
theorem read_more (es : List Ent) (more : Bs) (h : ∀ e ∈ es, CleanE e) :
    (read (write es ++ (fromB ++ more))).1 = es ++ (read (fromB ++ more)).1 ∧
    (read (write es ++ (fromB ++ more))).2 = (read (fromB ++ more)).2.map fun d => ⟨d.kind, d.at_ + (write es).length⟩ := by
  obtain ⟨st', h1, h2, h3, h4, h5⟩ := run_write es St.start h rfl (by decide)
  obtain ⟨f, R, e1, e2⟩ := first_from more
  have hp : st'.pos = ((write es).length : Int) := by rw [h5]; show (0 : Int) + _ = _; omega
  have hsim := sim_run es st'.pos (by omega) R _ _ (sim_start es st' f e2 h4 (by rw [h2]; rfl) h3 (by omega))
  have hA : run St.start (lines (write es ++ (fromB ++ more))) = run (step st' f) R := by
    rw [lines_write es _ h, run_append, h1, e1]; rfl
  have hB : run St.start (lines (fromB ++ more)) = run (step St.start f) R := by rw [e1]; rfl
  unfold read
  dsimp only
  rw [hA, hB]
  generalize run (step st' f) R = A at *
  generalize run (step St.start f) R = B at *
  obtain ⟨a1, a2, a3, a4, a5, a6, a7⟩ := hsim
  have hcl : closeEnts A = es ++ closeEnts B := by
    unfold closeEnts; rw [a1, a4, setRaw_app _ _ _ a2]
  have hne : closeEnts B ≠ [] := by
    unfold closeEnts; intro e; exact a2 ((setRaw_nil_iff _ _).1 e)
  refine ⟨hcl, ?_⟩
  rw [hcl, a3, hp, List.map_append]
  congr 1
  unfold endDam
  rw [last_app _ _ hne]
  cases hg : (closeEnts B).getLast? with
  | none => rfl
  | some e =>
    dsimp only
    split
    · rfl
    · simp only [List.map_cons, List.map_nil, List.length_append]
      congr 2
      omega
end Go.Proofs.YtbhhaehdoiaihaaGreatDoor.Pm
