/- Plain laws: a separator whose date is a word of letters; a separator whose beginning is spoiled; a blank line taken out. No program in sight. -/
import Derived.Test.YtbhhaehdoiaihaaGreatDoorQb
namespace Go.Proofs.YtbhhaehdoiaihaaGreatDoor.Pm

def letters (w : Bs) : Bool := w.all fun c => 97 ≤ c && c ≤ 122
theorem letters_nonW (w : Bs) (h : letters w = true) : ∀ c ∈ w, isWhite c = false := by
  intro c hc
  have := List.all_eq_true.1 h c hc
  simp only [Bool.and_eq_true, decide_eq_true_eq, UInt8.le_iff_toNat_le] at this
  have e1 : (97 : UInt8).toNat = 97 := rfl
  have e2 : (122 : UInt8).toNat = 122 := rfl
  unfold isWhite
  simp only [Bool.or_eq_false_iff, beq_eq_false_iff_ne, Ne, u8_eq_iff]
  have e3 : (9 : UInt8).toNat = 9 := rfl
  have e4 : (10 : UInt8).toNat = 10 := rfl
  have e5 : (13 : UInt8).toNat = 13 := rfl
  have e6 : (32 : UInt8).toNat = 32 := rfl
  rw [e3, e4, e5, e6]
  omega
theorem letters_good (w : Bs) (h : letters w = true) : ∀ c ∈ w, good c := by
  intro c hc
  have := letters_nonW w h c hc
  constructor <;> (rintro rfl; exact absurd this (by decide))
theorem while_all (p : UInt8 → Bool) (l : Bs) (h : ∀ x ∈ l, p x = true) : l.takeWhile p = l ∧ l.dropWhile p = [] := by
  induction l with
  | nil => exact ⟨rfl, rfl⟩
  | cons a l ih =>
    have h1 := h a (by simp)
    obtain ⟨i1, i2⟩ := ih (fun x hx => h x (by simp [hx]))
    rw [List.takeWhile_cons_of_pos h1, List.dropWhile_cons_of_pos h1, i1, i2]
    exact ⟨rfl, rfl⟩
theorem letters_unasc (w : Bs) (h : letters w = true) : unasc w = none := by
  have hn := letters_nonW w h
  cases w with
  | nil => rfl
  | cons c r =>
    have h1 : fields (c :: r) = [c :: r] := by
      obtain ⟨w1, w2⟩ := while_all (! isWhite ·) (c :: r) (fun x hx => by simp [hn x hx])
      rw [fields_word c r (hn c (by simp)), w1, w2, fields_nil]
    unfold unasc
    rw [h1]

theorem run_rest (st : St) (raw : Bs) (hp : 0 < st.pos) :
    run st ((lines raw).map mark ++ [[10]]) = ⟨st.ents, st.dams, st.ls ++ ((lines raw).map mark ++ [[10]]), true, st.pos + (((lines raw).map mark ++ [[10]]).flatten.length : Int)⟩ := by
  obtain ⟨es, ds, ls, af, k⟩ := st
  obtain ⟨af', h1, h2⟩ := run_plains ((lines raw).map mark ++ [[10]]) es ds ls af k hp
    (by
      intro l hl
      rcases List.mem_append.1 hl with hl | hl
      · obtain ⟨a, _, rfl⟩ := List.mem_map.1 hl; exact mark_not_bare a
      · simp at hl; subst hl; decide)
  rw [h1, h2 _ _ rfl]
  have e1 : blank [10] = true := by decide
  rw [e1]

/-- The bytes of an entry behind its separator. -/
def restOf (e : Ent) : Bs := ((lines e.raw).map mark ++ [[10]]).flatten
theorem writeOne_rest (e : Ent) (h : CleanE e) : writeOne e = sl e ++ restOf e := by
  rw [writeOne_chunk e h]; unfold chunk restOf; rw [List.flatten_cons]
theorem rest_Ln (e : Ent) (h : CleanE e) : ∀ l ∈ (lines e.raw).map mark ++ [[10]], Ln l := by
  intro l hl
  exact chunk_Ln (sl e) e.raw (sl_Ln e h) h.lf l (by unfold chunk; simp only [List.mem_cons]; exact .inr hl)
theorem write_split (es : List Ent) (i : Nat) (h : i < es.length) : write es = write (es.take i) ++ (writeOne es[i] ++ write (es.drop (i + 1))) := by
  conv => lhs; rw [← List.take_append_drop i es, List.drop_eq_getElem_cons h]
  unfold write
  rw [List.flatMap_append, List.flatMap_cons]
theorem run_write0 (es : List Ent) (h : ∀ e ∈ es, CleanE e) :
    ∃ st', run St.start (chunks es) = st' ∧ closeEnts st' = es ∧ st'.dams = [] ∧ st'.after = true ∧ st'.pos = ((write es).length : Int) := by
  obtain ⟨st', h1, h2, h3, h4, h5⟩ := run_write es St.start h rfl (by decide)
  refine ⟨st', h1, by rw [h2]; rfl, by rw [h3]; rfl, h4, by rw [h5]; show (0 : Int) + _ = _; omega⟩
theorem endDam_last (A B : List Ent) (n : Int) (hA : A ≠ []) (h : ∀ x, A.getLast? = some x → hasBlank x.raw = true) (hB : ∀ e ∈ B, hasBlank e.raw = true) : endDam (A ++ B) n = [] := by
  unfold endDam
  rcases List.eq_nil_or_concat B with rfl | ⟨L, x, rfl⟩
  · rw [List.append_nil]
    cases hg : A.getLast? with
    | none => rfl
    | some x => dsimp only; rw [if_pos (h x hg)]
  · rw [List.concat_eq_append, ← List.append_assoc, List.getLast?_concat]
    dsimp only
    rw [if_pos (hB x (by simp))]

/-- Reading where the date of one separator is a word of letters. -/
theorem read_dates (es : List Ent) (i : Nat) (hi : i < es.length) (w : Bs) (h : ∀ e ∈ es, CleanE e) (hw : letters w = true) :
    read (write (es.take i) ++ (sepLine es[i].sender w ++ (restOf es[i] ++ write (es.drop (i + 1))))) =
      (es.take i ++ { es[i] with date := 0 } :: es.drop (i + 1), [⟨2, (write (es.take i)).length⟩]) := by
  have he := h es[i] (List.getElem_mem hi)
  have hT : ∀ e ∈ es.take i, CleanE e := fun e hx => h e (List.mem_of_mem_take hx)
  have hD : ∀ e ∈ es.drop (i + 1), CleanE e := fun e hx => h e (List.mem_of_mem_drop hx)
  generalize es[i] = e at he
  generalize es.take i = T at hT
  generalize es.drop (i + 1) = D at hD
  obtain ⟨st', h1, h2, h3, h4, h5⟩ := run_write0 T hT
  have hg := letters_good w hw
  have hL : Ln (sepLine e.sender w) := sepLine_Ln _ _ (sender_ne e he 10 (by decide)) (fun c hc => (hg c hc).1)
  have hls : lines (write T ++ (sepLine e.sender w ++ (restOf e ++ write D))) = chunks T ++ (chunk (sepLine e.sender w) e.raw ++ chunks D) := by
    have e1 := lines_write T (sepLine e.sender w ++ (restOf e ++ write D)) hT
    have e2 : sepLine e.sender w ++ (restOf e ++ write D) = (chunk (sepLine e.sender w) e.raw).flatten ++ write D := by
      unfold chunk restOf; rw [List.flatten_cons, List.append_assoc]
    have e3 := lines_flat (chunk (sepLine e.sender w) e.raw) (write D) (chunk_Ln _ _ hL he.lf)
    have e4 := lines_write D [] hD
    rw [List.append_nil] at e4
    rw [e1, e2, e3, e4]; simp [lines]
  have hr := run_chunk st' (sepLine e.sender w) e.raw h4 (by omega) (sepLine_bare _ _)
  rw [sepOf_bad e.sender w (sender_ne e he 32 (by decide)) (fun c hc => (hg c hc).2) (letters_unasc w hw), h2, h3, h5] at hr
  dsimp only at hr
  obtain ⟨st2, g1, g2, g3, g4, g5⟩ := run_write D _ hD (show St.after ⟨T ++ [⟨e.sender, 0, []⟩], [] ++ [⟨2, ((write T).length : Int)⟩], (lines e.raw).map mark ++ [[10]], true, (write T).length + (chunk (sepLine e.sender w) e.raw).flatten.length⟩ = true from rfl) (by dsimp only; omega)
  have hc := close_entry T ⟨e.sender, 0, e.raw⟩ ([] ++ [⟨2, ((write T).length : Int)⟩]) true ((write T).length + (chunk (sepLine e.sender w) e.raw).flatten.length)
  rw [hc] at g2
  have hrun : run St.start (lines (write T ++ (sepLine e.sender w ++ (restOf e ++ write D)))) = st2 := by
    rw [hls, run_append, h1, run_append, hr]
    simpa using g1
  unfold read
  dsimp only
  rw [hrun, g2, g3]
  rw [endDam_last (T ++ [(⟨e.sender, 0, e.raw⟩ : Ent)]) D _ (by simp) (by intro x hx; simp at hx; subst hx; exact he.bl) (fun x hx => (hD x hx).bl)]
  simp

/-- The spoiled separator. -/
noncomputable def spoilt (e : Ent) : Bs := [88, 114, 111, 109, 32] ++ e.sender ++ [32] ++ asctime e.date ++ [10]
theorem spoilt_Ln (e : Ent) (h : CleanE e) : Ln (spoilt e) := by
  refine ⟨[88, 114, 111, 109, 32] ++ e.sender ++ [32] ++ asctime e.date, rfl, ?_⟩
  intro x hx
  simp only [List.mem_append, List.mem_singleton] at hx
  rcases hx with ((hx | hx) | hx) | hx
  · simp at hx; rcases hx with rfl | rfl | rfl | rfl | rfl <;> decide
  · exact sender_ne e h 10 (by decide) x hx
  · rw [hx]; decide
  · exact (asc_chars _ x hx).1
theorem spoilt_plain (e : Ent) : bare (spoilt e) = false := by
  unfold spoilt bare Lib.hasPrefix fromB
  simp [List.isPrefixOf]
theorem unmark_spoilt (e : Ent) : unmark (spoilt e) = spoilt e := by
  unfold spoilt unmark
  simp
theorem hasBlank_app (A B : Bs) (L : List Bs) (hA : A = L.flatten) (hL : ∀ l ∈ L, Ln l) (h : hasBlank B = true) : hasBlank (A ++ B) = true := by
  unfold hasBlank at h ⊢
  rw [hA, lines_flat L B hL, List.any_append, h, Bool.or_true]

/-- Reading where the beginning of a separator is spoiled. -/
theorem read_spoilt (T D : List Ent) (p e : Ent) (hT : ∀ x ∈ T, CleanE x) (hp : CleanE p) (he : CleanE e) (hD : ∀ x ∈ D, CleanE x) :
    read (write (T ++ [p]) ++ (spoilt e ++ (restOf e ++ write D))) = (T ++ ⟨p.sender, p.date, p.raw ++ ([10] ++ spoilt e ++ e.raw)⟩ :: D, []) := by
  have hTp : ∀ x ∈ T ++ [p], CleanE x := by
    intro x hx
    rcases List.mem_append.1 hx with hx | hx
    · exact hT x hx
    · simp at hx; subst hx; exact hp
  obtain ⟨st', h1, h2, h3, h4, h5⟩ := run_write0 T hT
  have hls : lines (write (T ++ [p]) ++ (spoilt e ++ (restOf e ++ write D))) = chunks T ++ (chunk (sl p) p.raw ++ ((spoilt e :: ((lines e.raw).map mark ++ [[10]])) ++ chunks D)) := by
    have e1 := lines_write (T ++ [p]) (spoilt e ++ (restOf e ++ write D)) hTp
    have e2 : spoilt e ++ (restOf e ++ write D) = (spoilt e :: ((lines e.raw).map mark ++ [[10]])).flatten ++ write D := by
      unfold restOf; rw [List.flatten_cons, List.append_assoc]
    have e3 := lines_flat (spoilt e :: ((lines e.raw).map mark ++ [[10]])) (write D) (by
      intro l hl
      rcases List.mem_cons.1 hl with rfl | hl
      · exact spoilt_Ln e he
      · exact rest_Ln e he l hl)
    have e4 := lines_write D [] hD
    rw [List.append_nil] at e4
    have e5 : chunks (T ++ [p]) = chunks T ++ chunk (sl p) p.raw := by unfold chunks; simp
    rw [e1, e2, e3, e4, e5]; simp [lines]
  have hr := run_entry st' p hp h4 (by omega)
  rw [h2, h3] at hr
  have hpos : 0 < st'.pos + ((writeOne p).length : Int) := by
    rw [writeOne_rest p hp, List.length_append]
    have := bare_ne (sl p) (sepLine_bare _ _)
    omega
  obtain ⟨af', k1, k2⟩ := run_plains (spoilt e :: ((lines e.raw).map mark ++ [[10]])) (T ++ [⟨p.sender, p.date, []⟩]) [] ((lines p.raw).map mark ++ [[10]]) true _ hpos (by
    intro l hl
    rcases List.mem_cons.1 hl with rfl | hl
    · exact spoilt_plain e
    rcases List.mem_append.1 hl with hl | hl
    · obtain ⟨a, _, rfl⟩ := List.mem_map.1 hl; exact mark_not_bare a
    · simp at hl; subst hl; decide)
  have hsome := k2 (spoilt e :: ((lines e.raw).map mark)) [10] (by simp)
  have e1 : blank [10] = true := by decide
  rw [e1] at hsome
  subst hsome
  have hraw : rawOf ((lines p.raw).map mark ++ [[10]] ++ (spoilt e :: ((lines e.raw).map mark ++ [[10]]))) = p.raw ++ ([10] ++ spoilt e ++ e.raw) := by
    unfold rawOf
    have e6 : (lines p.raw).map mark ++ [[10]] ++ (spoilt e :: ((lines e.raw).map mark ++ [[10]])) = ((lines p.raw).map mark ++ [[10]] ++ (spoilt e :: ((lines e.raw).map mark))) ++ [[10]] := by simp
    have e7 : [[10]].flatMap unmark = [10] := by decide
    rw [e6, dropBlank_lf, List.flatMap_append, List.flatMap_append, flat_unmark_mark, e7, List.flatMap_cons, flat_unmark_mark, lines_flatten, lines_flatten, unmark_spoilt]
    simp
  obtain ⟨st2, g1, g2, g3, g4, g5⟩ := run_write D _ hD (show St.after ⟨T ++ [⟨p.sender, p.date, []⟩], [], (lines p.raw).map mark ++ [[10]] ++ (spoilt e :: ((lines e.raw).map mark ++ [[10]])), true, st'.pos + ((writeOne p).length : Int) + ((spoilt e :: ((lines e.raw).map mark ++ [[10]])).flatten.length : Int)⟩ = true from rfl) (by dsimp only; omega)
  have hc : closeEnts ⟨T ++ [⟨p.sender, p.date, []⟩], [], (lines p.raw).map mark ++ [[10]] ++ (spoilt e :: ((lines e.raw).map mark ++ [[10]])), true, st'.pos + ((writeOne p).length : Int) + ((spoilt e :: ((lines e.raw).map mark ++ [[10]])).flatten.length : Int)⟩ = T ++ [⟨p.sender, p.date, p.raw ++ ([10] ++ spoilt e ++ e.raw)⟩] := by
    unfold closeEnts
    rw [hraw, setRaw_snoc']
  rw [hc] at g2
  have hrun : run St.start (lines (write (T ++ [p]) ++ (spoilt e ++ (restOf e ++ write D)))) = st2 := by
    rw [hls, run_append, h1, run_append, hr, run_append, k1]
    exact g1
  unfold read
  dsimp only
  rw [hrun, g2, g3]
  rw [endDam_last (T ++ [(⟨p.sender, p.date, p.raw ++ ([10] ++ spoilt e ++ e.raw)⟩ : Ent)]) D _ (by simp) (by
    intro x hx; simp at hx; subst hx
    show hasBlank (p.raw ++ (10 :: (spoilt e ++ e.raw))) = true
    have := hasBlank_app (p.raw ++ (10 :: spoilt e)) e.raw (lines p.raw ++ [[10], spoilt e]) (by simp [lines_flatten]) (by
      intro l hl
      rcases List.mem_append.1 hl with hl | hl
      · exact lines_all p.raw hp.lf l hl
      · simp at hl
        rcases hl with rfl | rfl
        · exact ⟨[], rfl, by simp⟩
        · exact spoilt_Ln e he) he.bl
    simpa using this) (fun x hx => (hD x hx).bl)]
  simp

theorem trim_len (s : Bs) (k : UInt8) : s.length ≤ (Lib.trimSuffix s [k]).length + 1 := by
  unfold Lib.trimSuffix
  split
  · simp; omega
  · omega
theorem mark_blank (l : Bs) (h : blank l = false) : blank (mark l) = false := by
  unfold mark
  cases hm : marked l with
  | false => simpa using h
  | true =>
    simp only [if_true]
    have h5 : 5 ≤ l.length := by
      unfold marked Lib.hasPrefix at hm
      rw [List.isPrefixOf_iff_prefix] at hm
      have a := hm.length_le
      have b : (Lib.trimLeftB l 62).length ≤ l.length := by unfold Lib.trimLeftB; exact List.dropWhile_sublist _ |>.length_le
      have c : fromB.length = 5 := rfl
      omega
    have h6 : 4 ≤ (content (62 :: l)).length := by
      unfold content
      split
      · have a := trim_len (62 :: l) 10
        have b := trim_len (Lib.trimSuffix (62 :: l) [10]) 13
        simp only [List.length_cons] at a
        omega
      · simp; omega
    unfold blank
    rw [List.isEmpty_eq_false_iff]
    intro e; rw [e] at h6; simp at h6
/-- The last line of a string is blank. -/
def endsB (s : Bs) : Bool := match (lines s).getLast? with
  | none => false
  | some l => blank l
theorem lines_last (s : Bs) (h : s ≠ []) : ∃ L x, lines s = L ++ [x] := by
  rcases List.eq_nil_or_concat (lines s) with h1 | ⟨L, x, h1⟩
  · have := lines_flatten s; rw [h1] at this; exact absurd this.symm h
  · exact ⟨L, x, by rw [h1, List.concat_eq_append]⟩
theorem raw_ne (e : Ent) (h : CleanE e) : e.raw ≠ [] := by
  intro h0; have := h.lf; rw [h0] at this; exact absurd this (by decide)
theorem run_marks (st : St) (raw : Bs) (hp : 0 < st.pos) (hr : raw ≠ []) (hb : endsB raw = false) :
    run st ((lines raw).map mark) = ⟨st.ents, st.dams, st.ls ++ (lines raw).map mark, false, st.pos + (((lines raw).map mark).flatten.length : Int)⟩ := by
  obtain ⟨es, ds, ls, af, k⟩ := st
  obtain ⟨af', h1, h2⟩ := run_plains ((lines raw).map mark) es ds ls af k hp
    (by intro l hl; obtain ⟨a, _, rfl⟩ := List.mem_map.1 hl; exact mark_not_bare a)
  obtain ⟨L, x, hL⟩ := lines_last raw hr
  have hx : blank x = false := by
    unfold endsB at hb
    rw [hL, List.getLast?_concat] at hb
    exact hb
  rw [h1, h2 (L.map mark) (mark x) (by rw [hL]; simp), mark_blank x hx]
theorem step_sep3 (st : St) (f : Bs) (hb : bare f = true) (ha : st.after = false) (hq : (sepOf f).2.2 = true) :
    step st f = ⟨closeEnts st ++ [⟨(sepOf f).1, (sepOf f).2.1, []⟩], st.dams ++ [⟨3, st.pos⟩], [], blank f, st.pos + f.length⟩ := by
  unfold step sep? closeEnts
  rw [hb, ha]
  simp [hq]
theorem rawOf_marks (raw : Bs) (hr : raw ≠ []) (hb : endsB raw = false) : rawOf ((lines raw).map mark) = raw := by
  obtain ⟨L, x, hL⟩ := lines_last raw hr
  have hx : blank x = false := by
    unfold endsB at hb
    rw [hL, List.getLast?_concat] at hb
    exact hb
  unfold rawOf
  have : dropBlank ((lines raw).map mark) = (lines raw).map mark := by
    unfold dropBlank
    rw [hL, List.map_append, List.map_cons, List.map_nil, List.getLast?_concat]
    dsimp only
    rw [if_neg (by simp [mark_blank x hx])]
  rw [this, flat_unmark_mark, lines_flatten]

/-- Reading where the blank line before a separator is taken out. -/
theorem read_joined (T D : List Ent) (p e : Ent) (hT : ∀ x ∈ T, CleanE x) (hp : CleanE p) (he : CleanE e) (hD : ∀ x ∈ D, CleanE x) (hb : endsB p.raw = false) (B : Bs) (hB : write (T ++ [p]) = B ++ [10]) :
    read (B ++ write (e :: D)) = (T ++ p :: e :: D, [⟨3, B.length⟩]) := by
  have hw : write (T ++ [p]) = write T ++ writeOne p := by unfold write; simp
  have hpr := writeOne_rest p hp
  have hB2 : B = write T ++ (sl p :: (lines p.raw).map mark).flatten := by
    have e1 : B ++ [10] = write T ++ (sl p :: (lines p.raw).map mark).flatten ++ [10] := by
      rw [← hB, hw, hpr]; unfold restOf; simp
    exact List.append_cancel_right e1
  obtain ⟨st', h1, h2, h3, h4, h5⟩ := run_write0 T hT
  have hls : lines (B ++ write (e :: D)) = chunks T ++ (sl p :: (lines p.raw).map mark) ++ (chunk (sl e) e.raw ++ chunks D) := by
    have e1 := lines_write T ((sl p :: (lines p.raw).map mark).flatten ++ write (e :: D)) hT
    have e3 := lines_flat (sl p :: (lines p.raw).map mark) (write (e :: D)) (by
      intro l hl
      rcases List.mem_cons.1 hl with rfl | hl
      · exact sl_Ln p hp
      · exact rest_Ln p hp l (List.mem_append_left _ hl))
    have e4 := lines_write (e :: D) [] (by intro x hx; rcases List.mem_cons.1 hx with rfl | hx; exact he; exact hD x hx)
    rw [List.append_nil] at e4
    have e5 : chunks (e :: D) = chunk (sl e) e.raw ++ chunks D := by unfold chunks; simp
    rw [hB2, List.append_assoc, e1, e3, e4, e5]; simp [lines]
  have hb0 : bare (sl p) = true := sepLine_bare _ _
  have hb1 : bare (sl e) = true := sepLine_bare _ _
  have l0 := bare_ne (sl p) hb0
  have l1 := bare_ne (sl e) hb1
  have hs0 := step_sep st' (sl p) hb0 h4
  rw [sl_sep p hp, h2, h3] at hs0
  simp only [if_true, List.append_nil] at hs0
  have hs1 := run_marks (step st' (sl p)) p.raw (by rw [hs0]; show 0 < st'.pos + _; omega) (raw_ne p hp) hb
  rw [hs0] at hs1
  dsimp only at hs1
  rw [List.nil_append] at hs1
  have hpos : st'.pos + ((sl p).length : Int) + (((lines p.raw).map mark).flatten.length : Int) = (B.length : Int) := by
    rw [hB2, List.flatten_cons, List.length_append, List.length_append, h5]; omega
  rw [hpos] at hs1
  have hs2 := step_sep3 ⟨T ++ [⟨p.sender, p.date, []⟩], [], (lines p.raw).map mark, false, (B.length : Int)⟩ (sl e) hb1 rfl (by rw [sl_sep e he])
  rw [sl_sep e he] at hs2
  have hcl : closeEnts ⟨T ++ [⟨p.sender, p.date, []⟩], [], (lines p.raw).map mark, false, (B.length : Int)⟩ = T ++ [p] := by
    unfold closeEnts; rw [rawOf_marks p.raw (raw_ne p hp) hb, setRaw_snoc']
  rw [hcl] at hs2
  dsimp only at hs2
  have hs3 := run_rest ⟨T ++ [p] ++ [⟨e.sender, e.date, []⟩], [] ++ [⟨3, (B.length : Int)⟩], [], blank (sl e), (B.length : Int) + ((sl e).length : Int)⟩ e.raw (by dsimp only; omega)
  dsimp only at hs3
  rw [List.nil_append, List.nil_append] at hs3
  obtain ⟨st2, g1, g2, g3, g4, g5⟩ := run_write D _ hD (show St.after ⟨T ++ [p] ++ [⟨e.sender, e.date, []⟩], [⟨3, (B.length : Int)⟩], (lines e.raw).map mark ++ [[10]], true, (B.length : Int) + ((sl e).length : Int) + (((lines e.raw).map mark ++ [[10]]).flatten.length : Int)⟩ = true from rfl) (by dsimp only; omega)
  rw [close_entry] at g2
  have hrun : run St.start (lines (B ++ write (e :: D))) = st2 := by
    rw [hls, run_append, run_append, run_append, h1, run_cons, hs0, hs1]
    unfold chunk
    rw [run_cons, hs2, List.nil_append, hs3]
    exact g1
  unfold read
  dsimp only
  rw [hrun, g2, g3]
  rw [endDam_blank _ _ (by
    intro x hx
    simp only [List.mem_append, List.mem_singleton] at hx
    rcases hx with ((hx | hx) | hx) | hx
    · exact (hT x hx).bl
    · rw [hx]; exact hp.bl
    · rw [hx]; exact he.bl
    · exact (hD x hx).bl)]
  simp
end Go.Proofs.YtbhhaehdoiaihaaGreatDoor.Pm
