/- The walk of missiveref16.Write. -/
import Derived.Test.YtbhhaehdoiaihaaGreatDoorRq
import Derived.Test.YtbhhaehdoiaihaaGreatDoorZd
namespace Go.Proofs.YtbhhaehdoiaihaaGreatDoor
open Go.RowKit

/-- 'append(b, s...)' of a string onto a row of the call's own, at a step of a region that draws its order. -/
theorem step_append_str {ops : Array Oper} {o : Oper} {a : Act} {w : World} {K : Act → World → Prop} {Q : Exit → Act → World → Prop} {E : Prop} (hg : o.guard = none) (sl x : Operand)
    (ho : o.op = .call { callee := .builtin .append, args := #[sl, x], argTypes := #[52, 9] })
    (base : Nat) (v : Value) (n : Nat) (xs : List Value) (hs : a.eval sl = v) (hown : w.ownsRow base 5 1 v n xs) (s : ByteArray) (hx : a.eval x = .string s)
    (hbytes : n + s.size ≤ 140737488355328) (hbase : base ≤ w.heap.size)
    (hK : ∀ v' w', w'.ownsRow base 5 1 v' (n + s.size) (xs ++ Lib.strCells s) → w.grownBy w' v.ownBlock → K (a.put o.dst v') w') :
    if Region.wanted o (yielded ops a.tmps) = true then Oper.wp Tryz.prog o a w K Q else E := by
  have hw : Region.wanted o (yielded ops a.tmps) = true := by simp [Region.wanted, hg]
  rw [if_pos hw]
  obtain ⟨i0, hi, hz0, hz1, hz2⟩ := info_parts info_u8
  obtain ⟨v', w', hr, h2, h3, _⟩ := Lib.run_append_own_string (P := Tryz.prog) w base 52 9 o.type 5 i0 Tryz.underlying52 Tryz.underlying9 hi hz0 hz1 hz2 v n xs hown s (by unfold maxLen; omega) hbytes hbase
  unfold Oper.wp execOp
  simp only [ho, resolve, invoke, builtin, Sem.run_bind, Sem.run_pure, Result.andThen_ok, List.map_toArray, List.map_cons, List.map_nil, hs, hx, hr]
  exact hK v' w' h2 h3

theorem own_box {w : World} {base : Nat} {e t : TypeId} {size n E : Nat} {v : Value} {xs : List Value} {cs : Array Value} {fz : Nat × Nat} (ho : w.ownsRow base e size v n xs) (hb : w.heap[E]? = some (.cells cs t fz)) (hne : e ≠ t) : v.ownBlock ≠ some E := by
  intro hk
  rcases ho.2 with ⟨rfl, _⟩ | ⟨g, cap, cur, rfl, _, hg, _⟩
  · simp [Value.ownBlock] at hk
  · simp [Value.ownBlock] at hk
    subst hk
    rw [hg] at hb
    injection hb with hb
    injection hb with _ h2 _
    exact hne h2

/-- A row of bytes of the call's own, v, that holds l, beside the entry x in the block E. -/
structure RX (w0 : World) (l : Pm.Bs) (v : Value) (E : Nat) (x : Pm.Ent) (wr : World) : Prop where
  row : wr.ownsRow w0.heap.size 5 1 v l.length (bc l)
  below : Below w0.heap.size w0 wr
  box : wr.heap[E]? = some (.cells #[.string ⟨x.sender.toArray⟩, .int .i64 x.date, .string ⟨x.raw.toArray⟩] 30 (0, 0))
section
variable {w0 wr w' : World} {l s : Pm.Bs} {v v' : Value} {E : Nat} {x : Pm.Ent}
theorem RX.mk0 (h : wr.ownsRow w0.heap.size 5 1 v l.length (bc l)) (hb : Below w0.heap.size w0 wr) : RX w0 l v wr.heap.size x (wr.alloc (.cells #[.string ⟨x.sender.toArray⟩, .int .i64 x.date, .string ⟨x.raw.toArray⟩] 30)) :=
  ⟨h.alloc _, hb.alloc hb.size _, heap_alloc_new wr _⟩
theorem RX.step (h : RX w0 l v E x wr) (hb : Below wr.heap.size wr w') : RX w0 l v E x w' :=
  ⟨h.row.kept (row := none) ⟨hb.os, hb.tape, hb.output, hb.size, fun k hk _ => hb.block k hk⟩ (by cases v.ownBlock <;> simp), h.below.trans (hb.mono h.below.size), (hb.block E (Array.getElem?_eq_some_iff.1 h.box).1).trans h.box⟩
theorem RX.drew (h : RX w0 l v E x wr) : RX w0 l v E x wr.drew := h.step ((Below.refl _ _).drew)
theorem RX.alloc (h : RX w0 l v E x wr) (o : Obj) : RX w0 l v E x (wr.alloc o) := h.step ((Below.refl _ _).alloc (Nat.le_refl _) o)
theorem RX.app (h : RX w0 l v E x wr) (ho : w'.ownsRow w0.heap.size 5 1 v' (l.length + s.length) (bc l ++ bc s)) (hg : wr.grownBy w' v.ownBlock) : RX w0 (l ++ s) v' E x w' :=
  ⟨by rw [List.length_append, bc_app]; exact ho, h.below.grown hg h.below.size (RS.row_ge h.row),
    (hg.block E (Array.getElem?_eq_some_iff.1 h.box).1 (Ne.symm (own_box h.row h.box (by decide)))).trans h.box⟩
theorem RX.appS (h : RX w0 l v E x wr) {t : ByteArray} (ht : t = ⟨s.toArray⟩) (ho : w'.ownsRow w0.heap.size 5 1 v' (l.length + t.size) (bc l ++ Lib.strCells t)) (hg : wr.grownBy w' v.ownBlock) : RX w0 (l ++ s) v' E x w' := by
  subst ht
  rw [Lib.size_eq, bc_str] at ho
  exact h.app ho hg
theorem RX.c0 (h : RX w0 l v E x wr) : wr.cell? ⟨E, 0, none⟩ = some (.string ⟨x.sender.toArray⟩) := by rw [cell_of_row wr E 0 _ _ _ h.box]; rfl
theorem RX.c1 (h : RX w0 l v E x wr) : wr.cell? ⟨E, 1, none⟩ = some (.int .i64 x.date) := by rw [cell_of_row wr E 1 _ _ _ h.box]; rfl
theorem RX.c2 (h : RX w0 l v E x wr) : wr.cell? ⟨E, 2, none⟩ = some (.string ⟨x.raw.toArray⟩) := by rw [cell_of_row wr E 2 _ _ _ h.box]; rfl
end
/-- Beside them the lines of a string. -/
structure RL (w0 : World) (l : Pm.Bs) (v : Value) (E : Nat) (x : Pm.Ent) (B : Nat) (vl : Value) (LS : List Pm.Bs) (wr : World) : Prop where
  rx : RX w0 l v E x wr
  ln : wr.ownsRow B 9 1 vl LS.length (LS.map strV)
section
variable {w0 wr w' : World} {l s : Pm.Bs} {v v' vl : Value} {E B : Nat} {x : Pm.Ent} {LS : List Pm.Bs}
theorem RL.app (h : RL w0 l v E x B vl LS wr) (ho : w'.ownsRow w0.heap.size 5 1 v' (l.length + s.length) (bc l ++ bc s)) (hg : wr.grownBy w' v.ownBlock) : RL w0 (l ++ s) v' E x B vl LS w' :=
  ⟨h.rx.app ho hg, h.ln.kept hg (own_ne h.ln h.rx.row (by decide))⟩
theorem RL.appS (h : RL w0 l v E x B vl LS wr) {t : ByteArray} (ht : t = ⟨s.toArray⟩) (ho : w'.ownsRow w0.heap.size 5 1 v' (l.length + t.size) (bc l ++ Lib.strCells t)) (hg : wr.grownBy w' v.ownBlock) : RL w0 (l ++ s) v' E x B vl LS w' := by
  subst ht
  rw [Lib.size_eq, bc_str] at ho
  exact h.app ho hg
theorem RL.line {g cap n : Nat} (h : RL w0 l v E x B (.slice (some ⟨g, 0, none⟩) n cap) LS wr) {i : Nat} {f : Pm.Bs} (hf : LS[i]? = some f) : wr.cell? ⟨g, i, none⟩ = some (.string ⟨f.toArray⟩) := by
  have h1 := h.ln.cells (g := g) rfl i (strV f) (by rw [List.getElem?_map, hf]; rfl)
  have e : (⟨g, 0, none⟩ : Addr).add i = ⟨g, i, none⟩ := by unfold Addr.add; split <;> simp_all
  rw [e] at h1
  exact h1
theorem RL.alloc (h : RL w0 l v E x B vl LS wr) (o : Obj) : RL w0 l v E x B vl LS (wr.alloc o) := ⟨h.rx.alloc o, h.ln.alloc o⟩
end
theorem flat_next (L : List Pm.Bs) (i : Nat) (h : i < L.length) {k : Nat} (hk : k = (L.take i).flatten.length) : k + L[i].length = (L.take (i + 1)).flatten.length := by
  subst hk
  rw [List.take_succ_eq_append_getElem h, List.flatten_append, List.length_append]; simp
theorem line_bounds (L : List Pm.Bs) (n : Nat) (hne : ∀ x ∈ L, x ≠ []) (hf : L.flatten.length = n) :
    L.length ≤ n ∧ (∀ i, (L.take i).flatten.length ≤ n) ∧ (∀ i (h : i < L.length), L[i].length ≤ n ∧ (L.take i).flatten.length + L[i].length ≤ n ∧ 1 ≤ L[i].length) ∧ ∀ i b, ((L.take i).drop b).flatten.length ≤ n := by
  subst hf
  refine ⟨?_, fun i => take_flat_le L i, fun i h => ⟨mem_flat_le L i h, ?_, List.length_pos_iff.2 (hne _ (List.getElem_mem h))⟩, fun i b => ?_⟩
  · induction L with
    | nil => simp
    | cons a L ih =>
      have h1 := List.length_pos_iff.2 (hne a (by simp))
      have h2 := ih (fun x hx => hne x (by simp [hx]))
      simp only [List.flatten_cons, List.length_append, List.length_cons]; omega
  · rw [flat_next L i h rfl]; exact take_flat_le L (i + 1)
  · refine Nat.le_trans ?_ (take_flat_le L i)
    conv => rhs; rw [← List.take_append_drop b (L.take i)]
    rw [List.flatten_append, List.length_append]; omega

theorem mark_next (L : List Pm.Bs) (i : Nat) (h : i < L.length) : (L.take (i + 1)).flatMap Pm.mark = (L.take i).flatMap Pm.mark ++ Pm.mark L[i] := by
  rw [List.take_succ_eq_append_getElem h, List.flatMap_append]; simp
theorem mark_take_le (L : List Pm.Bs) (i : Nat) : ((L.take i).flatMap Pm.mark).length ≤ (L.flatMap Pm.mark).length := by
  conv => rhs; rw [← List.take_append_drop i L]
  rw [List.flatMap_append, List.length_append]; omega
theorem head_str (S T : Pm.Bs) : (⟨#[70, 114, 111, 109, 32]⟩ ++ ⟨S.toArray⟩ ++ ⟨#[32]⟩ ++ ⟨T.toArray⟩ ++ ⟨#[10]⟩ : ByteArray) = ⟨(Pm.fromB ++ S ++ [32] ++ T ++ [10]).toArray⟩ := by
  apply ByteArray.ext; simp [Pm.fromB]

set_option maxRecDepth 100000 in
set_option maxHeartbeats 6400000 in
theorem rwrite_any (A : Option Addr) (c : Nat) (es : List Pm.Ent) (w : World) (ht : Tab w) (hE : EntS w A es) (hn : es.length ≤ 1000) (hsz : ∀ x ∈ es, x.sender.length ≤ 1000 ∧ x.raw.length ≤ 1000) :
    Calls Tryz.prog 16 #[.slice A es.length c] w (StrPost (Pm.write es) w) := by
  have HE := Lib.hid hE
  have HT := Lib.hid ht
  have HZ := Lib.hid hsz
  have hlen := hE.1
  obtain ⟨i0, hi, hz0, hz1, hz2⟩ := info_parts info_u8
  clear hE ht hsz
  unfold StrPost
  go_enter Tryz.func16, Tryz.ntmps16
  go_wp2
  go_loopw [3, 4, 5, 6, 7] (fun v3 v4 _ _ _ wr => ∃ k : Nat, k ≤ es.length ∧ v4 = .int .i64 k ∧ wr.ownsRow w.heap.size 5 1 v3 (Pm.write (es.take k)).length (bc (Pm.write (es.take k))) ∧ Below w.heap.size w wr) (fun _ v4 _ _ _ _ => es.length - (intOf v4).toNat)
  case atStart => exact ⟨0, by omega, rfl, by simpa [bc, Pm.write] using World.ownsRow_nil _ _ _ _, Below.refl _ _⟩
  case round =>
    obtain ⟨k, hk, rfl, hO, hB⟩ := hrel
    have HO := Lib.hid hO
    have HB := Lib.hid hB
    clear hO hB
    by_cases hlt : k < es.length
    · have hlt' : (k : Int) < (es.length : Int) := by omega
      obtain ⟨b, o, rfl, hat⟩ := (HE.out.up HB.out).at_ (by omega)
      have q1 := hat.sender k hlt
      have q2 := hat.date k hlt
      have q3 := hat.raw k hlt
      have hwt := Lib.hid (write_take es k hlt)
      have hwl := write_len (es.take k) 4000 (fun x hx => by have := HZ.out x (List.mem_of_mem_take hx); omega)
      rw [List.length_take] at hwl
      have hPl : (Pm.write (es.take k)).length ≤ 4000000 := by
        refine Nat.le_trans hwl ?_
        have : min k es.length ≤ 1000 := by omega
        exact Nat.mul_le_mul_right 4000 this
      clear hwl
      obtain ⟨z1, z2⟩ := HZ.out es[k] (List.getElem_mem hlt)
      clear hat
      have hX := Lib.hid (RX.mk0 (x := es[k]) HO.out HB.out)
      clear HO HB
      generalize es[k] = x at *
      generalize Pm.write (es.take k) = P at *
      go_wp2
      have hal := asc_len x.date
      generalize wr.heap.size = Bx at *
      generalize wr.alloc _ = W1 at *
      have HX1 := Lib.hid hX.out.drew
      have c0 := HX1.out.c0
      have c1 := HX1.out.c1
      have AS := Lib.hid (rasctime_any x.date W1.drew (HT.out.below (HX1.out.below)))
      unfold StrPost at AS
      have hhs := Lib.hid (head_str x.sender (Pm.asctime x.date))
      have HW1 := Lib.hid (writeOne_some x)
      have HW2 := Lib.hid (writeOne_none x)
      generalize Pm.asctime x.date = Asc at *
      have g1 : ¬ 9223372036854775807 < 5 + x.sender.length := by omega
      have g2 : ¬ 9223372036854775807 < 5 + x.sender.length + 1 := by omega
      have g3 : ¬ 9223372036854775807 < 5 + x.sender.length + 1 + Asc.length := by omega
      have g4 : ¬ 9223372036854775807 < 5 + x.sender.length + 1 + Asc.length + 1 := by omega
      clear hX q1 q2 q3
      go_region_held3 (fun w' => w'.cell? ⟨Bx, 0, none⟩ = some (.string ⟨x.sender.toArray⟩) ∧ w'.cell? ⟨Bx, 1, none⟩ = some (.int .i64 x.date))
        (first | exact hk8 | exact ⟨cell_up hb5 c0, cell_up hb5 c1⟩ | exact ⟨c0, c1⟩)
        (first
          | (go_at_call 33; refine (AS.out).mono ?_; rintro e w5 ⟨rfl, hb⟩; have hb5 := hb)
          | (refine step_append_str rfl (.tmp 18) (.tmp 27) rfl w.heap.size _ P.length (bc P) rfl ((HX1.out.step hb5).row) _ rfl (by rw [hhs.out, Lib.size_eq]; simp [Pm.fromB]; omega) ((HX1.out.step hb5).below.size) ?_; intro v8 w8 ho8 hg8; have HX8 := Lib.hid ((HX1.out.step hb5).appS hhs.out ho8 hg8); have hk8 : w8.cell? ⟨Bx, 0, none⟩ = some (.string ⟨x.sender.toArray⟩) ∧ w8.cell? ⟨Bx, 1, none⟩ = some (.int .i64 x.date) := ⟨HX8.out.c0, HX8.out.c1⟩))
      have hL0l : (P ++ (Pm.fromB ++ x.sender ++ [32] ++ Asc ++ [10])).length ≤ 5000000 := by simp [Pm.fromB]; omega
      generalize hL0 : P ++ (Pm.fromB ++ x.sender ++ [32] ++ Asc ++ [10]) = L0 at *
      have HL0 := Lib.hid hL0
      have c2 := HX8.out.c2
      clear hL0 hk8 ho8 hg8 AS HX1 c0 c1 hhs g1 g2 g3 g4 hb hb5
      have hln := Lib.hid (fun W => lines_any ⟨x.raw.toArray⟩ (by rw [Lib.size_eq]; show x.raw.length ≤ _; omega) W)
      unfold LinesPost at hln
      have e0 : (⟨x.raw.toArray⟩ : ByteArray).data.toList = x.raw := rfl
      rw [e0] at hln
      clear e0
      have hfm := flat_mark_len (Pm.lines x.raw) (Pm.lines_first x.raw)
      have HLI := Lib.hid (line_bounds (Pm.lines x.raw) x.raw.length (fun y hy => Pm.lines_first x.raw y hy) (by rw [Pm.lines_flatten]))
      rw [Pm.lines_flatten] at hfm
      generalize Pm.lines x.raw = LS at *
      have hLSl := HLI.out.1
      go_wp2_with (go_at_call 26; refine (hln.out _).mono ?_; rintro e w9 ⟨Al, cl, rfl, hol, hbl⟩; have HR9 := Lib.hid (RL.mk (HX8.out.step hbl) hol); clear hol hbl)
      generalize w8.heap.size = B8 at *
      clear HX8 c2 hln
      go_loopw [3, 7] (fun v3 v7 wq => ∃ j : Nat, j ≤ LS.length ∧ v7 = .int .i64 j ∧ RL w (L0 ++ (LS.take j).flatMap Pm.mark) v3 Bx x B8 (.slice Al LS.length cl) LS wq) (fun _ v7 _ => LS.length - (intOf v7).toNat)
      case atStart => exact ⟨0, by omega, rfl, by simpa using HR9.out⟩
      case round =>
        obtain ⟨j, hj, rfl, hR⟩ := hrel
        have HR := Lib.hid hR
        clear hR HR9
        by_cases hjl : j < LS.length
        · have hjl' : (j : Int) < (LS.length : Int) := by omega
          obtain ⟨g, rfl⟩ := row_some HR.out.ln (by omega)
          have HFj : Hid (LS[j]? = some LS[j]) := Lib.hid (List.getElem?_eq_getElem hjl)
          have q1 := HR.out.line HFj.out
          have hyl := (HLI.out.2.2.1 j hjl).1
          have hMl := mark_take_le LS j
          have hmk := Lib.hid (fun w => marks_any ⟨LS[j].toArray⟩ (by rw [Lib.size_eq]; show LS[j].length ≤ _; omega) w)
          have dl : (⟨LS[j].toArray⟩ : ByteArray).data.toList = LS[j] := rfl
          rw [dl] at hmk
          clear dl
          have hmm := marks_marked LS[j]
          have hmn := Lib.hid (mark_next LS j hjl)
          have hmd : Pm.mark LS[j] = if Pm.marked LS[j] then 62 :: LS[j] else LS[j] := rfl
          generalize LS[j] = y at *
          generalize marksI y = m at *
          have hW0 : (L0 ++ (LS.take j).flatMap Pm.mark).length ≤ 5002000 := by rw [List.length_append]; omega
          generalize hW : L0 ++ (LS.take j).flatMap Pm.mark = W at *
          have HW := Lib.hid hW
          clear hW
          by_cases hm : 0 ≤ m
          · have hmk62 := Lib.hid (hmd.trans (if_pos (hmm.1 hm)))
            clear hmm hmd
            go_wp2_with (first
              | (go_at_call 28; refine (hmk.out _).mono ?_; rintro e w' ⟨rfl, rfl⟩)
              | (at_builtin; refine wpList_append_own _ rfl (.tmp 44) (.tmp 45) 52 rfl w.heap.size 5 i0 (.int .u8 0) 1 1 Tryz.underlying52 hi hz0 hz1 hz2 rfl (by decide) _ _ _ rfl ((HR.out.alloc _).rx.row) ⟨_, 0, none⟩ 1 1 [.int .u8 62] rfl rfl (cells_new' _ _ (by simp) [.int .u8 62] _) (by simp [Value.oneCell']) (by simp only [maxLen]; omega) (by omega) (Nat.le_trans HR.out.rx.below.size (by simp)) ?_; intro v6 w6 ho6 hg6 _; have HR6 := Lib.hid ((HR.out.alloc _).app (s := [62]) ho6 hg6); have q1 := HR6.out.line HFj.out; clear ho6 hg6)
              | (at_builtin; refine Lib.wpList_append_own_string _ rfl (.tmp 47) (.tmp 51) 52 9 rfl w.heap.size 5 i0 Tryz.underlying52 Tryz.underlying9 hi hz0 hz1 hz2 _ _ _ rfl HR6.out.rx.row ⟨y.toArray⟩ rfl (by rw [Lib.size_eq]; simp only [maxLen, List.length_append, List.length_cons, List.length_nil]; show _ + y.length ≤ _; omega) (by rw [Lib.size_eq]; simp only [List.length_append, List.length_cons, List.length_nil]; show _ + y.length ≤ _; omega) HR6.out.rx.below.size ?_; intro v7 w7 ho7 hg7 _; have HR7 := Lib.hid (HR6.out.appS rfl ho7 hg7); clear ho7 hg7))
            go_roundw
            case rel =>
              refine ⟨j + 1, by omega, by go_num, ?_⟩
              rw [hmn.out, ← List.append_assoc, HW.out, hmk62.out]
              simpa using HR7.out
            case measure => simp [intOf]; omega
          · have hmk0 := Lib.hid (hmd.trans (if_neg (fun q => hm (hmm.2 q))))
            clear hmm hmd
            go_wp2_with (first
              | (go_at_call 28; refine (hmk.out _).mono ?_; rintro e w' ⟨rfl, rfl⟩)
              | (at_builtin; refine Lib.wpList_append_own_string _ rfl (.tmp 47) (.tmp 51) 52 9 rfl w.heap.size 5 i0 Tryz.underlying52 Tryz.underlying9 hi hz0 hz1 hz2 _ _ _ rfl HR.out.rx.row ⟨y.toArray⟩ rfl (by rw [Lib.size_eq]; simp only [maxLen]; show _ + y.length ≤ _; omega) (by rw [Lib.size_eq]; show _ + y.length ≤ _; omega) HR.out.rx.below.size ?_; intro v7 w7 ho7 hg7 _; have HR7 := Lib.hid (HR.out.appS rfl ho7 hg7); clear ho7 hg7))
            go_roundw
            case rel =>
              refine ⟨j + 1, by omega, by go_num, ?_⟩
              rw [hmn.out, ← List.append_assoc, HW.out, hmk0.out]
              exact HR7.out
            case measure => simp [intOf]; omega
        · have hje : j = LS.length := by omega
          subst hje
          have hjl' : ¬ (LS.length : Int) < (LS.length : Int) := by omega
          have hX := HR.out.rx
          rw [List.take_length] at hX
          have hWl : (L0 ++ LS.flatMap Pm.mark).length ≤ 5002000 := by rw [List.length_append]; omega
          have HX := Lib.hid hX
          clear hX HR
          have c2 := HX.out.c2
          by_cases hr0 : x.raw = []
          · have hout : Hid (L0 ++ LS.flatMap Pm.mark ++ [10] = P ++ Pm.writeOne x) := Lib.hid (by rw [HW1.out (.inl hr0), ← HL0.out]; simp)
            rw [hr0] at c2
            clear hr0
            go_wp2_with (at_builtin; refine wpList_append_own _ rfl (.tmp 69) (.tmp 70) 52 rfl w.heap.size 5 i0 (.int .u8 0) 1 1 Tryz.underlying52 hi hz0 hz1 hz2 rfl (by decide) _ _ _ rfl ((HX.out.alloc _).row) ⟨_, 0, none⟩ 1 1 [.int .u8 10] rfl rfl (cells_new' _ _ (by simp) [.int .u8 10] _) (by simp [Value.oneCell']) (by simp only [maxLen]; omega) (by omega) (Nat.le_trans HX.out.below.size (by simp)) ?_; intro v6 w6 ho6 hg6 _; have HX6 := Lib.hid ((HX.out.alloc _).app (s := [10]) ho6 hg6); clear ho6 hg6)
            go_roundw
            case rel => exact ⟨k + 1, by omega, by go_num, by rw [hwt.out, ← hout.out]; exact HX6.out.row, HX6.out.below⟩
            case measure => simp [intOf]; omega
          · obtain ⟨R, hRe⟩ : ∃ R : ByteArray, R = ⟨x.raw.toArray⟩ := ⟨_, rfl⟩
            have hRs : R.size = x.raw.length := by rw [hRe, Lib.size_eq]
            have hrp := List.length_pos_iff.2 hr0
            have hrs0 : 0 < R.size := by omega
            have hrs1 : R.size ≤ 1000 := by omega
            have hlf := lf_last R hrs0
            rw [show R.data.toList = x.raw by rw [hRe]] at hlf
            have hre : R.toList.isEmpty = false := by
              rw [Lib.toList_data, List.isEmpty_eq_false_iff, hRe]
              exact hr0
            rw [← hRe] at c2
            have HN := Lib.hid hr0
            have HRe := Lib.hid hRe
            have HRs := Lib.hid hRs
            clear hRe hr0 hRs
            by_cases hlast : R[R.size - 1].toNat = 10
            · have hout : Hid (L0 ++ LS.flatMap Pm.mark ++ [10] = P ++ Pm.writeOne x) := Lib.hid (by rw [HW1.out (.inr (by rw [hlf, decide_eq_true hlast])), ← HL0.out]; simp)
              have hl' : ((R[R.size - 1].toNat : Int) != 10) = false := by rw [bne_eq_false_iff_eq]; omega
              clear hlf hlast
              go_wp2_with (at_builtin; refine wpList_append_own _ rfl (.tmp 69) (.tmp 70) 52 rfl w.heap.size 5 i0 (.int .u8 0) 1 1 Tryz.underlying52 hi hz0 hz1 hz2 rfl (by decide) _ _ _ rfl ((HX.out.alloc _).row) ⟨_, 0, none⟩ 1 1 [.int .u8 10] rfl rfl (cells_new' _ _ (by simp) [.int .u8 10] _) (by simp [Value.oneCell']) (by simp only [maxLen]; omega) (by omega) (Nat.le_trans HX.out.below.size (by simp)) ?_; intro v6 w6 ho6 hg6 _; have HX6 := Lib.hid ((HX.out.alloc _).app (s := [10]) ho6 hg6); clear ho6 hg6)
              go_roundw
              case rel => exact ⟨k + 1, by omega, by go_num, by rw [hwt.out, ← hout.out]; exact HX6.out.row, HX6.out.below⟩
              case measure => simp [intOf]; omega
            · have hout : Hid (L0 ++ LS.flatMap Pm.mark ++ [10] ++ [10] = P ++ Pm.writeOne x) := Lib.hid (by rw [HW2.out HN.out (by rw [hlf, decide_eq_false hlast]), ← HL0.out]; simp)
              have hl' : ((R[R.size - 1].toNat : Int) != 10) = true := by rw [bne_iff_ne]; omega
              clear hlf hlast
              go_wp2_with (first
                | (at_builtin; refine wpList_append_own _ rfl (.tmp 66) (.tmp 67) 52 rfl w.heap.size 5 i0 (.int .u8 0) 1 1 Tryz.underlying52 hi hz0 hz1 hz2 rfl (by decide) _ _ _ rfl ((HX.out.alloc _).row) ⟨_, 0, none⟩ 1 1 [.int .u8 10] rfl rfl (cells_new' _ _ (by simp) [.int .u8 10] _) (by simp [Value.oneCell']) (by simp only [maxLen]; omega) (by omega) (Nat.le_trans HX.out.below.size (by simp)) ?_; intro v5 w5 ho5 hg5 _; have HX5 := Lib.hid ((HX.out.alloc _).app (s := [10]) ho5 hg5); clear ho5 hg5)
                | (at_builtin; refine wpList_append_own _ rfl (.tmp 69) (.tmp 70) 52 rfl w.heap.size 5 i0 (.int .u8 0) 1 1 Tryz.underlying52 hi hz0 hz1 hz2 rfl (by decide) _ _ _ rfl ((HX5.out.alloc _).row) ⟨_, 0, none⟩ 1 1 [.int .u8 10] rfl rfl (cells_new' _ _ (by simp) [.int .u8 10] _) (by simp [Value.oneCell']) (by simp only [maxLen, List.length_append, List.length_cons, List.length_nil] at hWl ⊢; omega) (by simp only [List.length_append, List.length_cons, List.length_nil] at hWl ⊢; omega) (Nat.le_trans HX5.out.below.size (by simp)) ?_; intro v6 w6 ho6 hg6 _; have HX6 := Lib.hid ((HX5.out.alloc _).app (s := [10]) ho6 hg6); clear ho6 hg6))
              go_roundw
              case rel => exact ⟨k + 1, by omega, by go_num, by rw [hwt.out, ← hout.out]; exact HX6.out.row, HX6.out.below⟩
              case measure => simp [intOf]; omega
    · have hke : k = es.length := by omega
      subst hke
      have hnl : ¬ ((es.length : Int) < (es.length : Int)) := by omega
      have ho := HO.out
      rw [List.take_length] at ho
      have hcv := own_string ho rfl
      have hb := HB.out
      clear HO ho
      go_wp2
      go_ret
      exact ⟨rfl, hb⟩
end Go.Proofs.YtbhhaehdoiaihaaGreatDoor
