/- The plain law behind MboxBytes: what Pm.read yields. No program in sight. -/
import Derived.Test.YtbhhaehdoiaihaaGreatDoorPure
namespace Go.Proofs.YtbhhaehdoiaihaaGreatDoor.Pm

def wt (es : List Ent) : Nat := (es.map fun e => e.sender.length + 5 + e.raw.length).sum
def quotes (ds : List Dam) : Nat := (ds.filter fun d => d.kind == 5).length
def bares (ls : List Bs) : Nat := (ls.filter bare).length

theorem wt_snoc (es : List Ent) (e : Ent) : wt (es ++ [e]) = wt es + (e.sender.length + 5 + e.raw.length) := by simp [wt]
theorem wt_setRaw (es : List Ent) (r : Bs) : wt (setRaw es r) ≤ wt es + r.length := by
  induction es with
  | nil => simp [setRaw, wt]
  | cons e es ih =>
    cases es with
    | nil => simp [setRaw, wt]
    | cons f fs =>
      simp only [setRaw, wt, List.map_cons, List.sum_cons] at ih ⊢
      omega
theorem setRaw_len (es : List Ent) (r : Bs) : (setRaw es r).length = es.length := by
  induction es with
  | nil => rfl
  | cons e es ih =>
    cases es with
    | nil => rfl
    | cons f fs => simp only [setRaw, List.length_cons] at ih ⊢; omega
theorem setRaw_nil_iff (es : List Ent) (r : Bs) : setRaw es r = [] ↔ es = [] := by
  constructor
  · intro h; have := congrArg List.length h; rw [setRaw_len] at this; exact List.eq_nil_of_length_eq_zero this
  · rintro rfl; rfl
theorem unmark_len (l : Bs) : (unmark l).length ≤ l.length := by
  unfold unmark
  split
  · simp
  · split <;> simp
theorem flatMap_unmark_len (L : List Bs) : (L.flatMap unmark).length ≤ L.flatten.length := by
  induction L with
  | nil => simp
  | cons a L ih =>
    rw [List.flatMap_cons, List.flatten_cons, List.length_append, List.length_append]
    have := unmark_len a; omega
theorem flatten_take_len (L : List Bs) (k : Nat) : (L.take k).flatten.length ≤ L.flatten.length := by
  have h : L.flatten = (L.take k).flatten ++ (L.drop k).flatten := by rw [← List.flatten_append, List.take_append_drop]
  rw [h, List.length_append]; omega
theorem rawOf_len (ls : List Bs) : (rawOf ls).length ≤ ls.flatten.length := by
  unfold rawOf
  refine Nat.le_trans (flatMap_unmark_len _) ?_
  unfold dropBlank
  split
  · exact Nat.le_refl _
  · split
    · rw [List.dropLast_eq_take]; exact flatten_take_len _ _
    · exact Nat.le_refl _

theorem trimSuffix_len (l p : Bs) : (Lib.trimSuffix l p).length ≤ l.length := by
  unfold Lib.trimSuffix
  split
  · rw [List.length_take]; omega
  · exact Nat.le_refl _
theorem content_len (l : Bs) : (content l).length ≤ l.length := by
  unfold content
  split
  · exact Nat.le_trans (trimSuffix_len _ _) (trimSuffix_len _ _)
  · exact Nat.le_refl _
theorem cut_fst_len (s p : Bs) : (Lib.cut s p).1.length ≤ s.length := by
  unfold Lib.cut; split <;> simp <;> omega
theorem sepOf_fst (l : Bs) : (sepOf l).1 = (Lib.cut ((content l).drop 5) [32]).1 := by
  unfold sepOf
  dsimp only
  split
  · rfl
  · split <;> rfl
theorem bare_len (l : Bs) (h : bare l = true) : 5 ≤ l.length := by
  unfold bare Lib.hasPrefix fromB at h
  rw [List.isPrefixOf_iff_prefix] at h
  have := h.length_le
  simpa using this
theorem sep_len (l : Bs) (h : bare l = true) : (sepOf l).1.length + 5 ≤ l.length := by
  rw [sepOf_fst]
  have h1 := cut_fst_len ((content l).drop 5) [32]
  have h2 := content_len l
  have h3 := bare_len l h
  rw [List.length_drop] at h1
  omega

/-- What holds behind the lines Ls. -/
structure Inv (Ls : List Bs) (st : St) : Prop where
  pos : st.pos = (Ls.flatten.length : Int)
  wt : wt st.ents + st.ls.flatten.length ≤ Ls.flatten.length
  cnt : st.ents.length + quotes st.dams = bares Ls
  kinds : ∀ d ∈ st.dams, 1 ≤ d.kind ∧ d.kind ≤ 5 ∧ 0 ≤ d.at_ ∧ d.at_ ≤ st.pos
  asc : st.dams.Pairwise fun a b => a.at_ ≤ b.at_
  none : bares Ls = 0 → st.ents = [] ∧ (Ls = [] → st.dams = []) ∧ (Ls ≠ [] → st.dams = [⟨1, 0⟩])

theorem pairwise_snoc (ds : List Dam) (d : Dam) (h : ds.Pairwise fun a b => a.at_ ≤ b.at_) (hd : ∀ a ∈ ds, a.at_ ≤ d.at_) : (ds ++ [d]).Pairwise fun a b => a.at_ ≤ b.at_ := by
  rw [List.pairwise_append]
  exact ⟨h, by simp, fun a ha b hb => by simp at hb; rw [hb]; exact hd a ha⟩
theorem quotes_snoc (ds : List Dam) (d : Dam) : quotes (ds ++ [d]) = quotes ds + (if d.kind = 5 then 1 else 0) := by
  unfold quotes
  rw [List.filter_append, List.length_append]
  by_cases h : d.kind = 5 <;> simp [h]
theorem bares_snoc (ls : List Bs) (l : Bs) : bares (ls ++ [l]) = bares ls + (if bare l then 1 else 0) := by
  unfold bares
  rw [List.filter_append, List.length_append]
  cases h : bare l <;> simp [h]

theorem inv_start : Inv [] St.start := ⟨rfl, by simp [St.start, Pm.wt], by simp [St.start, quotes, bares], by simp [St.start], by simp [St.start], fun _ => ⟨rfl, fun _ => rfl, fun h => absurd rfl h⟩⟩

theorem inv_step (Ls : List Bs) (st : St) (l : Bs) (h : Inv Ls st) (hl : l ≠ []) (hne : ∀ x ∈ Ls, x ≠ []) : Inv (Ls ++ [l]) (step st l) := by
  obtain ⟨es, ds, ls, af, k⟩ := st
  obtain ⟨h1, h2, h3, h4, h5, h6⟩ := h
  dsimp only at h1 h2 h3 h4 h5 h6
  have hpos : 0 < l.length := List.length_pos_iff.2 hl
  have hfl : (Ls ++ [l]).flatten.length = Ls.flatten.length + l.length := by simp
  have hb0 := bares_snoc Ls l
  have k0 : 0 ≤ k := by omega
  have hk1 : ∀ d ∈ ds, d.at_ ≤ k := fun d hd => (h4 d hd).2.2.2
  have up : ∀ d ∈ ds, 1 ≤ d.kind ∧ d.kind ≤ 5 ∧ 0 ≤ d.at_ ∧ d.at_ ≤ k + l.length := fun d hd => by
    obtain ⟨a, b, c, e⟩ := h4 d hd; exact ⟨a, b, c, by omega⟩
  have snoc : ∀ (D : List Dam) (q : Int), 1 ≤ q → q ≤ 5 → (∀ d ∈ D, 1 ≤ d.kind ∧ d.kind ≤ 5 ∧ 0 ≤ d.at_ ∧ d.at_ ≤ k + l.length) → ∀ d ∈ D ++ [⟨q, k⟩], 1 ≤ d.kind ∧ d.kind ≤ 5 ∧ 0 ≤ d.at_ ∧ d.at_ ≤ k + l.length := by
    intro D q a b hD d hd
    rcases List.mem_append.1 hd with hd | hd
    · exact hD d hd
    · simp at hd; subst hd; exact ⟨a, b, k0, by show k ≤ k + (l.length : Int); omega⟩
  cases hb : bare l with
  | true =>
    rw [hb] at hb0
    simp only [if_true] at hb0
    have hnone : bares (Ls ++ [l]) = 0 → False := fun e => by omega
    have hsl := sep_len l hb
    have hr := rawOf_len ls
    have hw := wt_setRaw es (rawOf ls)
    have hwn : ∀ t : Int, wt (setRaw es (rawOf ls) ++ [⟨(sepOf l).1, t, []⟩]) ≤ Ls.flatten.length + l.length := by
      intro t; rw [wt_snoc]; simp only [List.length_nil]; omega
    have hcn : ∀ t : Int, (setRaw es (rawOf ls) ++ [(⟨(sepOf l).1, t, []⟩ : Ent)]).length = es.length + 1 := by
      intro t; rw [List.length_append, setRaw_len]; rfl
    unfold step sep?
    rw [hb]
    simp only [if_true, Bool.true_and]
    cases af with
    | true =>
      simp only [Bool.true_or, if_true, List.append_nil]
      cases hq : (sepOf l).2.2 with
      | true =>
        simp only [if_true, List.append_nil]
        exact ⟨by simp only []; omega, by simp only [List.flatten_nil, List.length_nil]; have := hwn (sepOf l).2.1; omega, by simp only []; rw [hcn]; omega, up, h5, fun e => (hnone e).elim⟩
      | false =>
        simp only [Bool.false_eq_true, if_false]
        refine ⟨by simp only []; omega, by simp only [List.flatten_nil, List.length_nil]; have := hwn (sepOf l).2.1; omega, by simp only []; rw [hcn, quotes_snoc]; simp; omega, snoc ds 2 (by omega) (by omega) up, pairwise_snoc _ _ h5 hk1, fun e => (hnone e).elim⟩
    | false =>
      simp only [Bool.false_or, Bool.false_eq_true, if_false]
      cases hq : (sepOf l).2.2 with
      | true =>
        simp only [if_true, List.append_nil]
        refine ⟨by simp only []; omega, by simp only [List.flatten_nil, List.length_nil]; have := hwn (sepOf l).2.1; omega, by simp only []; rw [hcn, quotes_snoc]; simp; omega, snoc ds 3 (by omega) (by omega) up, pairwise_snoc _ _ h5 hk1, fun e => (hnone e).elim⟩
      | false =>
        simp only [Bool.false_eq_true, if_false]
        refine ⟨by simp only []; omega, by simp only [List.flatten_append, List.length_append, List.flatten_cons, List.flatten_nil, List.append_nil]; omega, by simp only []; rw [quotes_snoc]; simp; omega, snoc ds 5 (by omega) (by omega) up, pairwise_snoc _ _ h5 hk1, fun e => (hnone e).elim⟩
  | false =>
    rw [hb] at hb0
    simp only [Bool.false_eq_true, if_false, Nat.add_zero] at hb0
    unfold step
    rw [hb]
    simp only [Bool.false_and, Bool.false_eq_true, if_false]
    have hw' : wt es + (ls ++ [l]).flatten.length ≤ (Ls ++ [l]).flatten.length := by
      rw [hfl]; simp only [List.flatten_append, List.length_append, List.flatten_cons, List.flatten_nil, List.append_nil]; omega
    by_cases hk : k = 0
    · have hLs : Ls = [] := by
        cases Ls with
        | nil => rfl
        | cons x xs =>
          have := List.length_pos_iff.2 (hne x (by simp))
          simp at h1; omega
      subst hLs
      simp only [hk, if_true]
      obtain ⟨a, b, _⟩ := h6 (by simp [bares])
      have hd0 := b rfl
      subst hd0
      subst hk
      refine ⟨by simp, hw', by simp only []; rw [hb0, quotes_snoc]; simp; exact h3, by simp, by simp, fun _ => ⟨a, by simp, by simp⟩⟩
    · have hLs : Ls ≠ [] := by rintro rfl; simp at h1; exact hk h1
      simp only [hk, if_false, List.append_nil]
      refine ⟨by simp only []; omega, hw', by simp only []; omega, up, h5, fun e => ?_⟩
      obtain ⟨a, _, c⟩ := h6 (by omega)
      exact ⟨a, by simp, fun _ => c hLs⟩

theorem inv_run (Ls : List Bs) (hne : ∀ x ∈ Ls, x ≠ []) : Inv Ls (run St.start Ls) := by
  suffices h : ∀ (A B : List Bs) (st : St), (∀ x ∈ A ++ B, x ≠ []) → Inv A st → Inv (A ++ B) (run st B) by
    exact h [] Ls St.start (by simpa using hne) inv_start
  intro A B
  induction B generalizing A with
  | nil => intro st _ h; simpa [run] using h
  | cons b B ih =>
    intro st hn h
    have := ih (A ++ [b]) (step st b) (by simpa using hn) (inv_step A st b h (hn b (by simp)) (fun x hx => hn x (by simp [hx])))
    simpa [run] using this

/-- All that MboxBytes asks of what mbox.Read returns. -/
structure ReadFacts (s : Bs) : Prop where
  wt : wt (read s).1 ≤ s.length
  cnt : (read s).1.length + quotes (read s).2 = bares (lines s)
  kinds : ∀ d ∈ (read s).2, 1 ≤ d.kind ∧ d.kind ≤ 5 ∧ 0 ≤ d.at_ ∧ d.at_ ≤ s.length
  asc : (read s).2.Pairwise fun a b => a.at_ ≤ b.at_
  none : bares (lines s) = 0 → (read s).1 = [] ∧ (s = [] → (read s).2 = []) ∧ (s ≠ [] → (read s).2 = [⟨1, 0⟩])

theorem read_facts (s : Bs) : ReadFacts s := by
  have h := inv_run (lines s) (lines_first s)
  have hfl := lines_flatten s
  have hr0 : read s = (closeEnts (run St.start (lines s)), (run St.start (lines s)).dams ++ endDam (closeEnts (run St.start (lines s))) s.length) := rfl
  generalize run St.start (lines s) = st at *
  obtain ⟨es, ds, ls, af, k⟩ := st
  obtain ⟨h1, h2, h3, h4, h5, h6⟩ := h
  dsimp only at h1 h2 h3 h4 h5 h6
  rw [hfl] at h1 h2
  have hw := wt_setRaw es (rawOf ls)
  have hr := rawOf_len ls
  have hend : endDam (setRaw es (rawOf ls)) (s.length : Int) = [] ∨ endDam (setRaw es (rawOf ls)) (s.length : Int) = [⟨4, (s.length : Int)⟩] := by
    unfold endDam
    split
    · exact .inl rfl
    · split
      · exact .inl rfl
      · exact .inr rfl
  have h6' : bares (lines s) = 0 → (closeEnts ⟨es, ds, ls, af, k⟩ = [] ∧ (s = [] → ds ++ endDam (closeEnts ⟨es, ds, ls, af, k⟩) s.length = []) ∧ (s ≠ [] → ds ++ endDam (closeEnts ⟨es, ds, ls, af, k⟩) s.length = [⟨1, 0⟩])) := by
    intro e
    obtain ⟨a, b, c⟩ := h6 e
    subst a
    refine ⟨rfl, fun hs => ?_, fun hs => ?_⟩
    · show ds ++ [] = _
      rw [b (by rw [hs]; rfl), List.append_nil]
    · show ds ++ [] = _
      rw [c (by intro e2; rw [e2] at hfl; exact hs hfl.symm), List.append_nil]
  refine ⟨?_, ?_, ?_, ?_, by rw [hr0]; exact h6'⟩ <;> rw [hr0]
  · show Pm.wt (setRaw es (rawOf ls)) ≤ _; omega
  · show (setRaw es (rawOf ls)).length + quotes (ds ++ endDam (setRaw es (rawOf ls)) s.length) = _
    rw [setRaw_len]
    rcases hend with e | e <;> rw [e]
    · rw [List.append_nil]; exact h3
    · rw [quotes_snoc]; simpa using h3
  · show ∀ d ∈ ds ++ endDam (setRaw es (rawOf ls)) s.length, _
    intro d hd
    rcases List.mem_append.1 hd with hd | hd
    · have := h4 d hd; exact ⟨this.1, this.2.1, this.2.2.1, by omega⟩
    · rcases hend with e | e <;> rw [e] at hd
      · simp at hd
      · simp at hd; subst hd; exact ⟨by simp, by simp, by simp, by simp⟩
  · show (ds ++ endDam (setRaw es (rawOf ls)) s.length).Pairwise _
    rcases hend with e | e <;> rw [e]
    · rw [List.append_nil]; exact h5
    · refine pairwise_snoc _ _ h5 (fun a ha => ?_)
      have := h4 a ha; show a.at_ ≤ (s.length : Int); omega

end Go.Proofs.YtbhhaehdoiaihaaGreatDoor.Pm
