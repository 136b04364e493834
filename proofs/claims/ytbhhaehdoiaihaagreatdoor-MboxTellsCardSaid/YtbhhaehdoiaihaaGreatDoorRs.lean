/- Words and laws for the walk of missiveref16.Read. -/
import Derived.Test.YtbhhaehdoiaihaaGreatDoorRr
namespace Go.Proofs.YtbhhaehdoiaihaaGreatDoor
open Go.RowKit

theorem row_cap {w : World} {base n c : Nat} {e : TypeId} {size : Nat} {A : Option Addr} {xs : List Value} (h : w.ownsRow base e size (.slice A n c) n xs) : n ≤ c := by
  rcases h.2 with ⟨h1, h2⟩ | ⟨g, cap, cur, h1, _, _, h2, _⟩
  · omega
  · injection h1 with _ _ h3; omega
theorem run_snoc (L : List Pm.Bs) (i : Nat) (h : i < L.length) : Pm.run Pm.St.start (L.take (i + 1)) = Pm.step (Pm.run Pm.St.start (L.take i)) L[i] := by
  unfold Pm.run
  rw [List.take_succ_eq_append_getElem h, List.foldl_append]; rfl
theorem read_of (l : Pm.Bs) (es : List Pm.Ent) (ds : List Pm.Dam) (ls : List Pm.Bs) (af : Bool) (k : Int) (h : Pm.run Pm.St.start (Pm.lines l) = ⟨es, ds, ls, af, k⟩) :
    Pm.read l = (Pm.setRaw es (Pm.rawOf ls), ds ++ Pm.endDam (Pm.setRaw es (Pm.rawOf ls)) l.length) := read_eq l es ds ls af k h
theorem start_inv {es : List Pm.Ent} {ds : List Pm.Dam} {ls : List Pm.Bs} {af : Bool} {k : Int} (h : Pm.run Pm.St.start [] = ⟨es, ds, ls, af, k⟩) : es = [] ∧ ds = [] ∧ ls = [] ∧ af = true ∧ k = 0 := by
  unfold Pm.run Pm.St.start at h
  simp at h
  obtain ⟨rfl, rfl, rfl, rfl, rfl⟩ := h
  exact ⟨rfl, rfl, rfl, rfl, rfl⟩
/-- Where the lines of the present entry begin. -/
def BG (L : List Pm.Bs) (i : Nat) (es : List Pm.Ent) (ls : List Pm.Bs) (bg : Int) : Prop :=
  (es = [] ∧ bg = -1) ∨ (0 < es.length ∧ ∃ b : Nat, bg = b ∧ b ≤ i ∧ ls = (L.take i).drop b)
theorem BG.nil {L : List Pm.Bs} {i : Nat} {ls : List Pm.Bs} {bg : Int} (h : BG L i [] ls bg) : bg = -1 := by
  rcases h with h | h
  · exact h.2
  · simp at h
theorem BG.more {L : List Pm.Bs} {i : Nat} {es : List Pm.Ent} {ls : List Pm.Bs} {bg : Int} (h : BG L i es ls bg) {f : Pm.Bs} (hf : L[i]? = some f) : BG L (i + 1) es (ls ++ [f]) bg := by
  rcases h with h | ⟨h1, b, h2, h3, h4⟩
  · exact .inl h
  · refine .inr ⟨h1, b, h2, by omega, ?_⟩
    have hlt : i < L.length := by
      rcases Nat.lt_or_ge i L.length with h | h
      · exact h
      · rw [List.getElem?_eq_none h] at hf; cases hf
    rw [h4, List.take_succ_eq_append_getElem hlt, List.drop_append_of_le_length (by rw [List.length_take]; omega)]
    rw [List.getElem?_eq_getElem hlt] at hf
    injection hf with hf
    rw [hf]
theorem BG.fresh (L : List Pm.Bs) (i : Nat) (es : List Pm.Ent) (h : 0 < es.length) : BG L (i + 1) es [] ((i + 1 : Nat) : Int) :=
  .inr ⟨h, i + 1, rfl, Nat.le_refl _, by rw [List.drop_eq_nil_iff.2]; rw [List.length_take]; omega⟩
/-- Whether a blank line stands before line i, or none. -/
def afB (L : List Pm.Bs) : Nat → Bool
  | 0 => true
  | j + 1 => Pm.blank (L.getD j [])
theorem af_next (L : List Pm.Bs) (i : Nat) (h : i < L.length) : Pm.blank L[i] = afB L (i + 1) := by
  show _ = Pm.blank (L.getD i [])
  rw [List.getD_eq_getElem?_getD, List.getElem?_eq_getElem h]; rfl
theorem af_pred (L : List Pm.Bs) (i : Nat) (h : 1 ≤ i) (hl : i - 1 < L.length) : afB L i = (Pm.content L[i - 1]).isEmpty := by
  obtain ⟨j, rfl⟩ : ∃ j, i = j + 1 := ⟨i - 1, by omega⟩
  exact (af_next L j hl).symm
section
variable {w wr : World} {es : List Pm.Ent} {ds : List Pm.Dam} {L : List Pm.Bs} {ve vd : Value} {g cap n : Nat}
theorem RS.line (h : RS w es ds L ve vd (.slice (some ⟨g, 0, none⟩) n cap) wr) {i : Nat} {f : Pm.Bs} (hf : L[i]? = some f) : wr.cell? ⟨g, i, none⟩ = some (.string ⟨f.toArray⟩) := by
  have hlt : i < L.length := by
    rcases Nat.lt_or_ge i L.length with h | h
    · exact h
    · rw [List.getElem?_eq_none h] at hf; cases hf
  have h1 := h.lns.cells (g := g) rfl i (strV f) (by rw [List.getElem?_map, hf]; rfl)
  have e : (⟨g, 0, none⟩ : Addr).add i = ⟨g, i, none⟩ := by unfold Addr.add; split <;> simp_all
  rw [e] at h1
  exact h1
theorem RS.strs (h : RS w es ds L ve vd (.slice (some ⟨g, 0, none⟩) n cap) wr) (b i : Nat) (_hb : b ≤ i) (hi : i ≤ L.length) : StrS wr (some ⟨g, b, none⟩) ((L.take i).drop b) := by
  refine .inr ⟨g, b, rfl, fun j hj => ?_⟩
  rw [List.length_drop, List.length_take] at hj
  refine h.line ?_
  rw [List.getElem_drop, List.getElem_take, List.getElem?_eq_getElem (by omega)]
end

theorem RS.lastCell {w wr : World} {es : List Pm.Ent} {ds : List Pm.Dam} {L : List Pm.Bs} {vd vl : Value} {g c : Nat} (h : RS w es ds L (.slice (some ⟨g, 0, none⟩) es.length c) vd vl wr) (hp : 0 < es.length) :
    ∃ u, wr.cell? ⟨g, (es.length - 1) * 3 + 2, none⟩ = some u := by
  refine ⟨(entCells es)[(es.length - 1) * 3 + 2]'(by rw [entCells_length]; omega), ?_⟩
  rw [h.ents.cellAt _ (by omega)]
  exact List.getElem?_eq_getElem _
theorem RS.lastFree {w wr : World} {es : List Pm.Ent} {ds : List Pm.Dam} {L : List Pm.Bs} {vd vl : Value} {g c : Nat} (h : RS w es ds L (.slice (some ⟨g, 0, none⟩) es.length c) vd vl wr) :
    wr.frozen? ⟨g, (es.length - 1) * 3 + 2, none⟩ = false := h.ents.frozenAt _
theorem raw_at (A : Option Addr) (c : Nat) (L ls : List Pm.Bs) (n : Nat) (hn : n = L.length) (hls : ls = L) (hc : n ≤ c) (hcm : n ≤ 1000000) (hsz : L.flatten.length ≤ 1000000) (w : World) (hS : StrS w A L) :
    Calls Tryz.prog 30 #[.slice A n c] w (StrPost (Pm.rawOf ls) w) := by
  subst hn hls
  exact raw_any A c _ hc hcm w hS hsz
theorem strs_end {w wr : World} {es : List Pm.Ent} {ds : List Pm.Dam} {L : List Pm.Bs} {ve vd : Value} {g cl b ab : Nat} (h : RS w es ds L ve vd (.slice (some ⟨g, 0, none⟩) L.length cl) wr) (hcl : L.length ≤ cl)
    (hab : (if cl = b then some (⟨g, 0, none⟩ : Addr) else some ⟨g, b, none⟩) = some ⟨g, ab, none⟩) : StrS wr (some ⟨g, ab, none⟩) (L.drop b) := by
  by_cases hb : b < L.length
  · rw [if_neg (by omega)] at hab
    rw [← hab]
    have := h.strs b L.length (by omega) (Nat.le_refl _)
    rwa [List.take_length] at this
  · exact .inl (by rw [List.length_drop]; omega)
def RdInv (w : World) (L : List Pm.Bs) (Al : Option Addr) (cl : Nat) (v4 v5 v7 v8 v9 : Value) (wr : World) : Prop :=
  ∃ (i : Nat) (es : List Pm.Ent) (ds : List Pm.Dam) (ls : List Pm.Bs) (af : Bool) (k : Nat) (Ae Ad : Option Addr) (ce cd : Nat) (bg : Int),
    v4 = .slice Ae es.length ce ∧ v5 = .slice Ad ds.length cd ∧ v7 = .int .i64 k ∧ v8 = .int .i64 bg ∧ v9 = .int .i64 i ∧ i ≤ L.length ∧
    RS w es ds L (.slice Ae es.length ce) (.slice Ad ds.length cd) (.slice Al L.length cl) wr ∧
    Pm.run Pm.St.start (L.take i) = ⟨es, ds, ls, af, k⟩ ∧ BG L i es ls bg ∧ af = afB L i ∧ k = (L.take i).flatten.length ∧ es.length ≤ i ∧ ds.length ≤ 2 * i ∧ i ≤ k
theorem RdInv.start {w w1 : World} {L : List Pm.Bs} {Al : Option Addr} {cl : Nat} (h : w1.ownsRow w.heap.size 9 1 (.slice Al L.length cl) L.length (L.map strV)) (hb : Below w.heap.size w w1) :
    RdInv w L Al cl (.slice none 0 0) (.slice none 0 0) (.int .i64 0) (.int .i64 (-1)) (.int .i64 0) w1 :=
  ⟨0, [], [], [], true, 0, none, none, 0, 0, -1, rfl, rfl, rfl, rfl, rfl, by omega, ⟨World.ownsRow_nil _ _ _ _, World.ownsRow_nil _ _ _ _, h, hb⟩, rfl, .inl ⟨rfl, rfl⟩, rfl, rfl, by simp, by simp, by simp⟩
end Go.Proofs.YtbhhaehdoiaihaaGreatDoor
