/- Lists of entries and of damages in memory; the walks of few, clean, Same and Hurt. -/
import Derived.Test.YtbhhaehdoiaihaaGreatDoorWo
namespace Go.Proofs.YtbhhaehdoiaihaaGreatDoor
open Go.RowKit

/-- The entries es lie in the block b from the cell o on. -/
structure EntAt (w : World) (b o : Nat) (es : List Pm.Ent) : Prop where
  sender : ∀ (k : Nat) (h : k < es.length), w.cell? ⟨b, o + k * 3, none⟩ = some (.string ⟨es[k].sender.toArray⟩)
  date : ∀ (k : Nat) (h : k < es.length), w.cell? ⟨b, o + k * 3 + 1, none⟩ = some (.int .i64 es[k].date)
  raw : ∀ (k : Nat) (h : k < es.length), w.cell? ⟨b, o + k * 3 + 2, none⟩ = some (.string ⟨es[k].raw.toArray⟩)
/-- The slice of n entries at A holds es. -/
def EntS (w : World) (A : Option Addr) (es : List Pm.Ent) : Prop := es.length ≤ 9223372036854775807 ∧ (es.length = 0 ∨ ∃ b o, A = some ⟨b, o, none⟩ ∧ EntAt w b o es)
structure DamAt (w : World) (b o : Nat) (ds : List Pm.Dam) : Prop where
  kind : ∀ (k : Nat) (h : k < ds.length), w.cell? ⟨b, o + k * 2, none⟩ = some (.int .i64 ds[k].kind)
  pos : ∀ (k : Nat) (h : k < ds.length), w.cell? ⟨b, o + k * 2 + 1, none⟩ = some (.int .i64 ds[k].at_)
def DamS (w : World) (A : Option Addr) (ds : List Pm.Dam) : Prop := ds.length ≤ 9223372036854775807 ∧ (ds.length = 0 ∨ ∃ b o, A = some ⟨b, o, none⟩ ∧ DamAt w b o ds)

theorem EntAt.up {w w' : World} {b o : Nat} {es : List Pm.Ent} (h : EntAt w b o es) (hb : Below w.heap.size w w') : EntAt w' b o es :=
  ⟨fun k hk => cell_up hb (h.sender k hk), fun k hk => cell_up hb (h.date k hk), fun k hk => cell_up hb (h.raw k hk)⟩
theorem EntS.up {w w' : World} {A : Option Addr} {es : List Pm.Ent} (h : EntS w A es) (hb : Below w.heap.size w w') : EntS w' A es :=
  ⟨h.1, h.2.imp id fun ⟨b, o, e, h⟩ => ⟨b, o, e, h.up hb⟩⟩
theorem DamAt.up {w w' : World} {b o : Nat} {es : List Pm.Dam} (h : DamAt w b o es) (hb : Below w.heap.size w w') : DamAt w' b o es :=
  ⟨fun k hk => cell_up hb (h.kind k hk), fun k hk => cell_up hb (h.pos k hk)⟩
theorem DamS.up {w w' : World} {A : Option Addr} {es : List Pm.Dam} (h : DamS w A es) (hb : Below w.heap.size w w') : DamS w' A es :=
  ⟨h.1, h.2.imp id fun ⟨b, o, e, h⟩ => ⟨b, o, e, h.up hb⟩⟩
theorem EntS.drewN {w : World} {A : Option Addr} {es : List Pm.Ent} (h : EntS w A es) (n : Nat) : EntS (w.drewN n) A es := ⟨h.1, h.2.imp id fun ⟨b, o, e, h⟩ => ⟨b, o, e, ⟨h.sender, h.date, h.raw⟩⟩⟩
theorem DamS.drewN {w : World} {A : Option Addr} {es : List Pm.Dam} (h : DamS w A es) (n : Nat) : DamS (w.drewN n) A es := ⟨h.1, h.2.imp id fun ⟨b, o, e, h⟩ => ⟨b, o, e, ⟨h.kind, h.pos⟩⟩⟩
theorem EntS.at_ {w : World} {A : Option Addr} {es : List Pm.Ent} (h : EntS w A es) (hn : 0 < es.length) : ∃ b o, A = some ⟨b, o, none⟩ ∧ EntAt w b o es := by
  rcases h.2 with e | e
  · omega
  · exact e
theorem DamS.at_ {w : World} {A : Option Addr} {es : List Pm.Dam} (h : DamS w A es) (hn : 0 < es.length) : ∃ b o, A = some ⟨b, o, none⟩ ∧ DamAt w b o es := by
  rcases h.2 with e | e
  · omega
  · exact e
/-- A slice of the list. -/
theorem EntAt.sub {w : World} {b o : Nat} {es : List Pm.Ent} (h : EntAt w b o es) (i j : Nat) (hij : i ≤ j) (hj : j ≤ es.length) : EntAt w b (o + i * 3) ((es.take j).drop i) := by
  have hl : ((es.take j).drop i).length = j - i := by simp; omega
  refine ⟨fun k hk => ?_, fun k hk => ?_, fun k hk => ?_⟩
  · have := h.sender (i + k) (by omega)
    simp only [List.getElem_drop, List.getElem_take]
    rw [show o + i * 3 + k * 3 = o + (i + k) * 3 by omega]; exact this
  · have := h.date (i + k) (by omega)
    simp only [List.getElem_drop, List.getElem_take]
    rw [show o + i * 3 + k * 3 + 1 = o + (i + k) * 3 + 1 by omega]; exact this
  · have := h.raw (i + k) (by omega)
    simp only [List.getElem_drop, List.getElem_take]
    rw [show o + i * 3 + k * 3 + 2 = o + (i + k) * 3 + 2 by omega]; exact this

theorem entCells_raw (es : List Pm.Ent) (k : Nat) (h : k < es.length) : (entCells es)[k * 3 + 2]? = some (.string ⟨es[k].raw.toArray⟩) := by
  induction es generalizing k with
  | nil => simp at h
  | cons e es ih =>
    cases k with
    | zero => rfl
    | succ k =>
      have := ih k (by simpa using h)
      rw [show (k + 1) * 3 + 2 = (k * 3 + 2) + 3 by omega]
      simpa [entCells] using this
theorem entCells_from (es : List Pm.Ent) (k : Nat) (h : k < es.length) : (entCells es)[k * 3]? = some (.string ⟨es[k].sender.toArray⟩) := by
  induction es generalizing k with
  | nil => simp at h
  | cons e es ih =>
    cases k with
    | zero => rfl
    | succ k =>
      have := ih k (by simpa using h)
      rw [show (k + 1) * 3 = (k * 3) + 3 by omega]
      simpa [entCells] using this
theorem entCells_date (es : List Pm.Ent) (k : Nat) (h : k < es.length) : (entCells es)[k * 3 + 1]? = some (.int .i64 es[k].date) := by
  induction es generalizing k with
  | nil => simp at h
  | cons e es ih =>
    cases k with
    | zero => rfl
    | succ k =>
      have := ih k (by simpa using h)
      rw [show (k + 1) * 3 + 1 = (k * 3 + 1) + 3 by omega]
      simpa [entCells] using this
theorem damCells_kind (es : List Pm.Dam) (k : Nat) (h : k < es.length) : (damCells es)[k * 2]? = some (.int .i64 es[k].kind) := by
  induction es generalizing k with
  | nil => simp at h
  | cons e es ih =>
    cases k with
    | zero => rfl
    | succ k =>
      have := ih k (by simpa using h)
      rw [show (k + 1) * 2 = (k * 2) + 2 by omega]
      simpa [damCells] using this
theorem damCells_at (es : List Pm.Dam) (k : Nat) (h : k < es.length) : (damCells es)[k * 2 + 1]? = some (.int .i64 es[k].at_) := by
  induction es generalizing k with
  | nil => simp at h
  | cons e es ih =>
    cases k with
    | zero => rfl
    | succ k =>
      have := ih k (by simpa using h)
      rw [show (k + 1) * 2 + 1 = (k * 2 + 1) + 2 by omega]
      simpa [damCells] using this
theorem own_len {w : World} {base : Nat} {e : TypeId} {size n : Nat} {v : Value} {xs : List Value} (h : w.ownsRow base e size v n xs) : n ≤ 9223372036854775807 := by
  rcases h.2 with ⟨_, h0⟩ | ⟨g, cap, cur, _, _, _, h1, h2, _⟩
  · omega
  · simp only [maxLen] at h2; omega
/-- What mbox.Read hands back, as a list in memory. -/
theorem entS_of_own {w : World} {base c : Nat} {A : Option Addr} {es : List Pm.Ent} (h : w.ownsRow base 30 3 (.slice A es.length c) es.length (entCells es)) : EntS w A es := by
  refine ⟨own_len h, ?_⟩
  rcases Nat.eq_zero_or_pos es.length with e | e
  · exact .inl e
  · obtain ⟨g, rfl⟩ := row_some h e
    refine .inr ⟨g, 0, rfl, fun k hk => ?_, fun k hk => ?_, fun k hk => ?_⟩
    · rw [Nat.zero_add]; exact (h.cellAt _ (by omega)).trans (entCells_from es k hk)
    · rw [Nat.zero_add]; exact (h.cellAt _ (by omega)).trans (entCells_date es k hk)
    · rw [Nat.zero_add]; exact (h.cellAt _ (by omega)).trans (entCells_raw es k hk)
theorem damS_of_own {w : World} {base c : Nat} {A : Option Addr} {es : List Pm.Dam} (h : w.ownsRow base 38 2 (.slice A es.length c) es.length (damCells es)) : DamS w A es := by
  refine ⟨own_len h, ?_⟩
  rcases Nat.eq_zero_or_pos es.length with e | e
  · exact .inl e
  · obtain ⟨g, rfl⟩ := row_some h e
    refine .inr ⟨g, 0, rfl, fun k hk => ?_, fun k hk => ?_⟩
    · rw [Nat.zero_add]; exact (h.cellAt _ (by omega)).trans (damCells_kind es k hk)
    · rw [Nat.zero_add]; exact (h.cellAt _ (by omega)).trans (damCells_at es k hk)

/-! ### few -/
def okFew (e : Pm.Ent) : Bool := e.sender.length ≤ 210 && e.raw.length ≤ 600
def fewB (es : List Pm.Ent) : Bool := es.all okFew && es.length ≤ 8
theorem few_bad (es : List Pm.Ent) (k : Nat) (h : k < es.length) (hk : okFew es[k] = false) : fewB es = false := by
  have : es.all okFew = false := by
    rw [Bool.eq_false_iff]; intro ha
    have := List.all_eq_true.1 ha es[k] (List.getElem_mem h)
    rw [hk] at this; cases this
  unfold fewB; rw [this]; rfl
theorem all_take {α : Type} (p : α → Bool) (es : List α) (k : Nat) (h : k < es.length) (h1 : (es.take k).all p = true) (h2 : p es[k] = true) : (es.take (k + 1)).all p = true := by
  rw [List.take_succ_eq_append_getElem h, List.all_append, h1]; simp [h2]

set_option maxHeartbeats 1600000 in
theorem few_any (A : Option Addr) (c : Nat) (es : List Pm.Ent) (w : World) (hE : EntS w A es) :
    Calls Tryz.prog 8 #[.slice A es.length c] w fun e w' => e = .returned (.bool (fewB es)) ∧ w = w' := by
  have HE := Lib.hid hE
  have hlen := hE.1
  clear hE
  have hbad := Lib.hid (few_bad es)
  have hgood : Hid (es.all okFew = true → fewB es = decide (es.length ≤ 8)) := Lib.hid fun h => by unfold fewB; rw [h]; rfl
  generalize fewB es = B at *
  go_enter Tryz.func8, Tryz.ntmps8
  go_wp2
  go_loop [3] (fun i => ∃ k : Nat, k ≤ es.length ∧ i = .int .i64 k ∧ (es.take k).all okFew = true) (fun i => es.length - (intOf i).toNat)
  case atStart => exact ⟨0, by omega, rfl, by simp⟩
  case round =>
    obtain ⟨k, hk, rfl, hd⟩ := hrel
    have HD := Lib.hid hd
    clear hd
    by_cases hlt : k < es.length
    · have hlt' : (k : Int) < (es.length : Int) := by omega
      obtain ⟨b, o, rfl, hat⟩ := HE.out.at_ (by omega)
      have q1 := hat.sender k hlt
      have q2 := hat.raw k hlt
      have hbk := Lib.hid (hbad.out k hlt)
      have hal := Lib.hid (all_take okFew es k hlt HD.out)
      clear hat hbad
      have hok : Hid (okFew es[k] = (decide (es[k].sender.length ≤ 210) && decide (es[k].raw.length ≤ 600))) := Lib.hid rfl
      generalize es[k] = x at *
      by_cases h1 : 210 < x.sender.length
      · have h1' : 210 < (x.sender.length : Int) := by omega
        have hB : Hid (B = false) := Lib.hid (hbk.out (by rw [hok.out]; simp; omega))
        go_wp2
        go_ret
        exact ⟨by rw [hB.out]; rfl, rfl⟩
      · have h1' : ¬ 210 < (x.sender.length : Int) := by omega
        by_cases h2 : 600 < x.raw.length
        · have h2' : 600 < (x.raw.length : Int) := by omega
          have hB : Hid (B = false) := Lib.hid (hbk.out (by rw [hok.out]; simp; omega))
          go_wp2
          go_ret
          exact ⟨by rw [hB.out]; rfl, rfl⟩
        · have h2' : ¬ 600 < (x.raw.length : Int) := by omega
          go_wp2
          go_round
          case rel => exact ⟨k + 1, by omega, by go_num, hal.out (by rw [hok.out]; simp; omega)⟩
          case measure => simp [intOf]; omega
    · have hke : k = es.length := by omega
      subst hke
      have hd := HD.out
      rw [List.take_length] at hd
      have hB := Lib.hid (hgood.out hd)
      clear hd
      go_wp2
      go_ret
      exact ⟨ret_bool (by rw [hB.out]; exact decide_eq_decide.2 (by omega)), rfl⟩

/-! ### clean -/
theorem cleanAll_bad (es : List Pm.Ent) (k : Nat) (h : k < es.length) (hk : Pm.clean es[k] = false) : es.all Pm.clean = false := by
  rw [Bool.eq_false_iff]; intro ha
  have := List.all_eq_true.1 ha es[k] (List.getElem_mem h)
  rw [hk] at this; cases this

set_option maxHeartbeats 1600000 in
theorem cleanAll_any (A : Option Addr) (c : Nat) (es : List Pm.Ent) (w : World) (ht : Tab w) (hE : EntS w A es) (hsz : ∀ x ∈ es, x.sender.length ≤ 4294967280 ∧ x.raw.length ≤ 4294967280) :
    Calls Tryz.prog 17 #[.slice A es.length c] w (BoolPost (es.all Pm.clean) w) := by
  have HE := Lib.hid hE
  have hlen := hE.1
  have HT := Lib.hid ht
  have HZ := Lib.hid hsz
  clear hE ht hsz
  unfold BoolPost
  have hbad := Lib.hid (cleanAll_bad es)
  have hB0 : Hid (∀ B, B = es.all Pm.clean → B = es.all Pm.clean) := Lib.hid fun _ h => h
  generalize hBB : es.all Pm.clean = B at *
  have HBB := Lib.hid hBB
  clear hBB hB0
  go_enter Tryz.func17, Tryz.ntmps17
  go_wp2
  go_loopw [3] (fun i wr => ∃ k : Nat, k ≤ es.length ∧ i = .int .i64 k ∧ (es.take k).all Pm.clean = true ∧ Below w.heap.size w wr) (fun i _ => es.length - (intOf i).toNat)
  case atStart => exact ⟨0, by omega, rfl, by simp, Below.refl _ _⟩
  case round =>
    obtain ⟨k, hk, rfl, hd, hb⟩ := hrel
    have HD := Lib.hid hd
    have HB := Lib.hid hb
    clear hd hb
    by_cases hlt : k < es.length
    · have hlt' : (k : Int) < (es.length : Int) := by omega
      obtain ⟨b, o, rfl, hat⟩ := (HE.out.up HB.out).at_ (by omega)
      have q1 := hat.sender k hlt
      have q2 := hat.date k hlt
      have q3 := hat.raw k hlt
      obtain ⟨z1, z2⟩ := HZ.out es[k] (List.getElem_mem hlt)
      have hcl := Lib.hid (clean_any ⟨es[k].sender.toArray⟩ ⟨es[k].raw.toArray⟩ es[k].date (by rw [Lib.size_eq]; exact z1) (by rw [Lib.size_eq]; exact z2) wr (HT.out.below HB.out))
      unfold BoolPost at hcl
      have hbk := Lib.hid (hbad.out k hlt)
      have hal := Lib.hid (all_take Pm.clean es k hlt HD.out)
      clear hat hbad z1 z2
      have hx : es[k] = ⟨es[k].sender, es[k].date, es[k].raw⟩ := rfl
      cases hv : Pm.clean es[k] with
      | true =>
        rw [show Pm.clean ⟨(⟨es[k].sender.toArray⟩ : ByteArray).data.toList, es[k].date, (⟨es[k].raw.toArray⟩ : ByteArray).data.toList⟩ = true from hv] at hcl
        have hal2 := Lib.hid (hal.out hv)
        clear hv hx hbk hal
        go_wp2_with (go_at_call 11; refine (hcl.out).mono ?_; rintro e w2 ⟨rfl, hb2⟩)
        go_roundw
        case rel => exact ⟨k + 1, by omega, by go_num, hal2.out, HB.out.trans (hb2.mono HB.out.size)⟩
        case measure => simp [intOf]; omega
      | false =>
        rw [show Pm.clean ⟨(⟨es[k].sender.toArray⟩ : ByteArray).data.toList, es[k].date, (⟨es[k].raw.toArray⟩ : ByteArray).data.toList⟩ = false from hv] at hcl
        have hbk2 := Lib.hid (hbk.out hv)
        clear hv hx hbk hal
        go_wp2_with (go_at_call 11; refine (hcl.out).mono ?_; rintro e w2 ⟨rfl, hb2⟩)
        go_ret
        exact ⟨ret_bool (by rw [hbk2.out]), HB.out.trans (hb2.mono HB.out.size)⟩
    · have hke : k = es.length := by omega
      subst hke
      have hd := HD.out
      rw [List.take_length, HBB.out] at hd
      have hd := Lib.hid hd
      go_wp2
      go_ret
      exact ⟨ret_bool (by rw [hd.out]), HB.out⟩
end Go.Proofs.YtbhhaehdoiaihaaGreatDoor
