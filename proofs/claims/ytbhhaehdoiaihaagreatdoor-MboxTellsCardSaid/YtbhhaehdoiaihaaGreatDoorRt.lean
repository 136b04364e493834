/- The walk of missiveref16.Read. Printed by genread2.py. -/
import Derived.Test.YtbhhaehdoiaihaaGreatDoorRs
namespace Go.Proofs.YtbhhaehdoiaihaaGreatDoor
open Go.RowKit

set_option maxHeartbeats 8000000 in
set_option maxRecDepth 100000 in
theorem rread_any (l : Pm.Bs) (hs : l.length ≤ 100000) (w : World) :
    Calls Tryz.prog 10 #[.string ⟨l.toArray⟩] w (ReadPost l w) := by
  obtain ⟨iE, hE, hE0, hE1, hE2⟩ := info_parts info_ent
  obtain ⟨iD, hD, hD0, hD1, hD2⟩ := info_parts info_dam
  have hln := Lib.hid (lines_any ⟨l.toArray⟩ (by rw [Lib.size_eq]; show l.length ≤ _; omega) w)
  unfold LinesPost at hln
  have e0 : (⟨l.toArray⟩ : ByteArray).data.toList = l := rfl
  rw [e0] at hln
  clear e0
  have HL := Lib.hid (fun x hx => Pm.lines_first l x hx)
  have HF := Lib.hid (Pm.lines_flatten l)
  have hrd := Lib.hid (read_of l)
  generalize Pm.lines l = L at *
  have HLI := Lib.hid (line_bounds L l.length HL.out (by rw [HF.out]))
  have hLl := (HLI.out).1
  go_enter Tryz.func10, Tryz.ntmps10
  go_wp2_with (go_at_call 26; (with_reducible refine (hln.out).mono ?_); rintro e w1 ⟨Al, cl, rfl, ho, hb1⟩; have HO := Lib.hid ho; have HB1 := Lib.hid hb1; clear ho hb1)
  have hcl : L.length ≤ cl := row_cap HO.out
  clear hln
  go_loopw [4, 5, 7, 8, 9, 10, 11, 12, 13, 14] (fun v4 v5 v7 v8 v9 _ _ _ _ _ wr => RdInv w L Al cl v4 v5 v7 v8 v9 wr) (fun _ _ _ _ v9 _ _ _ _ _ _ => L.length - (intOf v9).toNat)
  case atStart => exact RdInv.start HO.out HB1.out
  case round =>
    obtain ⟨i, es, ds, ls, af, k, Ae, Ad, ce, cd, bg, rfl, rfl, rfl, rfl, rfl, hi, hR, hrun, hbg, haf, hk, hee, hdd, hik⟩ := hrel
    have HR := Lib.hid hR
    have HRUN := Lib.hid hrun
    have HBG := Lib.hid hbg
    have HAF := Lib.hid haf
    have HK := Lib.hid hk
    clear hR hrun hbg haf hk
    have hkl := (HLI.out).2.1 i
    rw [← HK.out] at hkl
    by_cases hlt : i < L.length
    · have hlt' : (i : Int) < (L.length : Int) := by omega
      obtain ⟨g, rfl⟩ := row_some HR.out.lns (by omega)
      have HFi : Hid (L[i]? = some L[i]) := Lib.hid (List.getElem?_eq_getElem hlt)
      have q1 := HR.out.line HFi.out
      have hfl := (HLI.out).2.2.1 i hlt
      have hcon := Lib.hid (fun (x : Pm.Bs) (hx : x.length ≤ 100000) w => refContent_any x (by omega) w)
      have hmk := Lib.hid (fun w => marks_any ⟨L[i].toArray⟩ (by rw [Lib.size_eq]; show L[i].length ≤ _; omega) w)
      have dl : (⟨L[i].toArray⟩ : ByteArray).data.toList = L[i] := rfl
      rw [dl] at hmk
      clear dl
      have hmb := marks_bare L[i]
      have hpl := Lib.hid (fun (h5 : 5 ≤ (Pm.content L[i]).length) w => parts_any L[i] (Nat.le_trans hfl.1 (by omega)) h5 w)
      have hbc := Lib.hid (bare_content L[i])
      have hkn := Lib.hid (flat_next L i hlt HK.out)
      have hrn := Lib.hid (run_snoc L i hlt)
      have hwrap : IntKind.i64.wrap ((k : Int) + (L[i].length : Int)) = (k : Int) + (L[i].length : Int) := IntWalk.i64_in _ (by omega)
      have HAN := Lib.hid (af_next L i hlt)
      by_cases hi0 : i = 0
      · have hst := HRUN.out
        rw [hi0, List.take_zero] at hst
        obtain ⟨rfl, rfl, rfl, rfl, hk0⟩ := start_inv hst
        obtain rfl := HBG.out.nil
        obtain rfl : k = 0 := by omega
        obtain rfl := hi0
        clear hst hk0
        cases hB : Pm.bare L[0] with
        | false =>
          have hm : (marksI L[0] == 0) = false := by rw [beq_eq_false_iff_ne]; intro e; rw [hmb.1 e] at hB; cases hB
          have HST := Lib.hid (step_0 [] [] [] true ((0 : Nat) : Int) L[0] hB rfl)
          clear hB hmb hpl hbc
          generalize L[0] = f at *
          generalize marksI f = m at *
          go_wp2_with (first
            | (go_at_call 28; (with_reducible refine (hmk.out _).mono ?_); rintro e w' ⟨rfl, rfl⟩)
            | (at_builtin; refine wpList_append_own _ rfl (.tmp 103) (.tmp 105) 25 rfl w.heap.size 38 iD (.agg #[.int .i64 0, .int .i64 0]) 2 16 Tryz.underlying25 hD hD0 hD1 hD2 rfl (by decide) _ _ _ rfl (HR.out.dams.alloc _) ⟨_, 0, none⟩ 1 1 [.int .i64 1, .int .i64 0] rfl rfl (cells_new' _ _ (by simp) [.int .i64 1, .int .i64 0] _) (by simp [Value.oneCell']) (by simp only [maxLen, List.length_append, List.length_cons, List.length_nil]; omega) (by first | omega | (simp only [List.length_append, List.length_cons, List.length_nil]; omega)) (Nat.le_trans HR.out.below.size (by simp)) ?_; intro v2 w2 ho2 hg2 _; obtain ⟨A2, c2, rfl⟩ := own_form ho2; have HR2 := Lib.hid ((HR.out.alloc _).addDam ⟨1, 0⟩ ho2 hg2); have q1 := HR2.out.line HFi.out; clear ho2 hg2))
          go_roundw
          case rel =>
            refine ⟨0 + 1, [], [] ++ [⟨1, 0⟩], [] ++ [f], Pm.blank f, 0 + f.length, Ae, A2, ce, c2, (-1), by first | rfl | (simp; done) | (simp [setRaw_length]; done), by first | rfl | (simp; done), by go_num, by first | rfl | go_num, by go_num, by omega, ?_, ?_, ?_, HAN.out, hkn.out, ?_, ?_, ?_⟩
            · first | exact HR2.out | simpa using HR2.out | simpa [setRaw_nil] using HR2.out | simpa [setRaw_length] using HR2.out
            · rw [hrn.out, HRUN.out, HST.out]; first | done | (rw [pos_add]; done) | (simp; done)
            · exact .inl ⟨rfl, rfl⟩
            · first | omega | (simp; omega) | (simp only [List.length_append, setRaw_length, List.length_cons, List.length_nil]; omega)
            · first | omega | (simp; omega) | (simp only [List.length_append, List.length_cons, List.length_nil]; omega)
            · omega
          case measure => simp [intOf]; omega
        | true =>
          have hm : marksI L[0] = 0 := hmb.2 hB
          have hpt := Lib.hid (hpl.out (hbc.out hB))
          unfold SepPost at hpt
          rw [hm] at hmk
          have hsT := Lib.hid (step_TT [] [] [] ((0 : Nat) : Int) L[0] hB)
          have hsF := Lib.hid (step_FT [] [] [] ((0 : Nat) : Int) L[0] hB)
          clear hB hmb hpl hbc hm
          generalize L[0] = f at *
          generalize (Pm.sepOf f).1 = SE at *
          generalize (Pm.sepOf f).2.1 = SD at *
          generalize (Pm.sepOf f).2.2 = SO at *
          cases SO with
          | true =>
            have HST := Lib.hid (hsT.out rfl)
            clear hsT hsF
            go_wp2_with (first
              | (go_at_call 28; (with_reducible refine (hmk.out _).mono ?_); rintro e w' ⟨rfl, rfl⟩)
              | (go_at_call 29; (with_reducible refine (hpt.out _).mono ?_); rintro e ws ⟨rfl, hbs⟩; have HR1 := Lib.hid (HR.out.step hbs); have q1 := HR1.out.line HFi.out; clear hbs)
              | (at_builtin; refine wpList_append_own _ rfl (.tmp 71) (.tmp 75) 22 rfl w.heap.size 30 iE (.agg #[.string .empty, .int .i64 0, .string .empty]) 3 40 Tryz.underlying22 hE hE0 hE1 hE2 rfl (by decide) _ _ _ rfl (HR1.out.ents.alloc _) ⟨_, 0, none⟩ 1 1 [.string ⟨SE.toArray⟩, .int .i64 SD, .string ⟨([] : Pm.Bs).toArray⟩] rfl rfl (cells_new' _ _ (by simp) [.string ⟨SE.toArray⟩, .int .i64 SD, .string ⟨([] : Pm.Bs).toArray⟩] _) (by simp [Value.oneCell']) (by simp only [maxLen, List.length_nil]; omega) (by first | omega | (simp only [List.length_nil]; omega)) (Nat.le_trans HR1.out.below.size (by simp)) ?_; intro v3 w3 ho3 hg3 _; obtain ⟨A3, c3, rfl⟩ := own_form ho3; have HR3 := Lib.hid ((HR1.out.alloc _).addEnt ⟨SE, SD, []⟩ ho3 hg3); have q1 := HR3.out.line HFi.out; clear ho3 hg3))
            go_roundw
            case rel =>
              refine ⟨0 + 1, Pm.setRaw [] (Pm.rawOf []) ++ [⟨SE, SD, []⟩], [], [], Pm.blank f, 0 + f.length, A3, Ad, c3, cd, ((0 + 1 : Nat) : Int), by first | rfl | (simp; done) | (simp [setRaw_length]; done), by first | rfl | (simp; done), by go_num, by first | rfl | go_num, by go_num, by omega, ?_, ?_, ?_, HAN.out, hkn.out, ?_, ?_, ?_⟩
              · first | exact HR3.out | simpa using HR3.out | simpa [setRaw_nil] using HR3.out | simpa [setRaw_length] using HR3.out
              · rw [hrn.out, HRUN.out, HST.out]; first | done | (rw [pos_add]; done) | (simp; done)
              · exact BG.fresh _ _ _ (by simp)
              · first | omega | (simp; omega) | (simp only [List.length_append, setRaw_length, List.length_cons, List.length_nil]; omega)
              · first | omega | (simp; omega) | (simp only [List.length_append, List.length_cons, List.length_nil]; omega)
              · omega
            case measure => simp [intOf]; omega
          | false =>
            have HST := Lib.hid (hsF.out rfl)
            clear hsT hsF
            go_wp2_with (first
              | (go_at_call 28; (with_reducible refine (hmk.out _).mono ?_); rintro e w' ⟨rfl, rfl⟩)
              | (go_at_call 29; (with_reducible refine (hpt.out _).mono ?_); rintro e ws ⟨rfl, hbs⟩; have HR1 := Lib.hid (HR.out.step hbs); have q1 := HR1.out.line HFi.out; clear hbs)
              | (at_builtin; refine wpList_append_own _ rfl (.tmp 71) (.tmp 75) 22 rfl w.heap.size 30 iE (.agg #[.string .empty, .int .i64 0, .string .empty]) 3 40 Tryz.underlying22 hE hE0 hE1 hE2 rfl (by decide) _ _ _ rfl (HR1.out.ents.alloc _) ⟨_, 0, none⟩ 1 1 [.string ⟨SE.toArray⟩, .int .i64 SD, .string ⟨([] : Pm.Bs).toArray⟩] rfl rfl (cells_new' _ _ (by simp) [.string ⟨SE.toArray⟩, .int .i64 SD, .string ⟨([] : Pm.Bs).toArray⟩] _) (by simp [Value.oneCell']) (by simp only [maxLen, List.length_nil]; omega) (by first | omega | (simp only [List.length_nil]; omega)) (Nat.le_trans HR1.out.below.size (by simp)) ?_; intro v3 w3 ho3 hg3 _; obtain ⟨A3, c3, rfl⟩ := own_form ho3; have HR3 := Lib.hid ((HR1.out.alloc _).addEnt ⟨SE, SD, []⟩ ho3 hg3); have q1 := HR3.out.line HFi.out; clear ho3 hg3)
              | (at_builtin; refine wpList_append_own _ rfl (.tmp 81) (.tmp 84) 25 rfl w.heap.size 38 iD (.agg #[.int .i64 0, .int .i64 0]) 2 16 Tryz.underlying25 hD hD0 hD1 hD2 rfl (by decide) _ _ _ rfl (HR3.out.dams.alloc _) ⟨_, 0, none⟩ 1 1 [.int .i64 2, .int .i64 0] rfl rfl (cells_new' _ _ (by simp) [.int .i64 2, .int .i64 0] _) (by simp [Value.oneCell']) (by simp only [maxLen, List.length_append, List.length_cons, List.length_nil]; omega) (by first | omega | (simp only [List.length_append, List.length_cons, List.length_nil]; omega)) (Nat.le_trans HR3.out.below.size (by simp)) ?_; intro v4 w4 ho4 hg4 _; obtain ⟨A4, c4, rfl⟩ := own_form ho4; have HR4 := Lib.hid ((HR3.out.alloc _).addDam ⟨2, 0⟩ ho4 hg4); have q1 := HR4.out.line HFi.out; clear ho4 hg4))
            go_roundw
            case rel =>
              refine ⟨0 + 1, Pm.setRaw [] (Pm.rawOf []) ++ [⟨SE, SD, []⟩], [] ++ [⟨2, 0⟩], [], Pm.blank f, 0 + f.length, A3, A4, c3, c4, ((0 + 1 : Nat) : Int), by first | rfl | (simp; done) | (simp [setRaw_length]; done), by first | rfl | (simp; done), by go_num, by first | rfl | go_num, by go_num, by omega, ?_, ?_, ?_, HAN.out, hkn.out, ?_, ?_, ?_⟩
              · first | exact HR4.out | simpa using HR4.out | simpa [setRaw_nil] using HR4.out | simpa [setRaw_length] using HR4.out
              · rw [hrn.out, HRUN.out, HST.out]; first | done | (rw [pos_add]; done) | (simp; done)
              · exact BG.fresh _ _ _ (by simp)
              · first | omega | (simp; omega) | (simp only [List.length_append, setRaw_length, List.length_cons, List.length_nil]; omega)
              · first | omega | (simp; omega) | (simp only [List.length_append, List.length_cons, List.length_nil]; omega)
              · omega
            case measure => simp [intOf]; omega
      · have hi1 : 1 ≤ i := by omega
        have hi1' : 0 < (i : Int) := by omega
        have t1 : ((i : Int) == 0) = false := by rw [beq_eq_false_iff_ne]; omega
        have t2 : (i == 0) = false := by rw [beq_eq_false_iff_ne]; omega
        have hil : i - 1 < L.length := by omega
        have HFj : Hid (L[i - 1]? = some L[i - 1]) := Lib.hid (List.getElem?_eq_getElem hil)
        have q0 := HR.out.line HFj.out
        have hfl0 := (HLI.out).2.2.1 (i - 1) hil
        have hcon0 := Lib.hid (hcon.out L[i - 1] (by omega))
        have hafe : af = (Pm.content L[i - 1]).isEmpty := HAF.out.trans (af_pred L i hi1 hil)
        clear hi0 hcon
        generalize L[i - 1] = fj at *
        generalize Pm.content fj = cj at *
        cases hB : Pm.bare L[i] with
        | false =>
          have hm : (marksI L[i] == 0) = false := by rw [beq_eq_false_iff_ne]; intro e; rw [hmb.1 e] at hB; cases hB
          have HST := Lib.hid (step_P es ds ls af k L[i] hB (by omega))
          clear hB hmb hpl hbc
          have HAFE := Lib.hid hafe
          clear hafe
          generalize L[i] = f at *
          generalize marksI f = m at *
          go_wp2_with (first
            | (go_at_call 27; (with_reducible refine (hcon0.out _).mono ?_); rintro e w' ⟨rfl, rfl⟩)
            | (go_at_call 28; (with_reducible refine (hmk.out _).mono ?_); rintro e w' ⟨rfl, rfl⟩))
          go_roundw
          case rel =>
            refine ⟨i + 1, es, ds, ls ++ [f], Pm.blank f, k + f.length, Ae, Ad, ce, cd, bg, by first | rfl | (simp; done) | (simp [setRaw_length]; done), by first | rfl | (simp; done), by go_num, by first | rfl | go_num, by go_num, by omega, ?_, ?_, ?_, HAN.out, hkn.out, ?_, ?_, ?_⟩
            · first | exact HR.out | simpa using HR.out | simpa [setRaw_nil] using HR.out | simpa [setRaw_length] using HR.out
            · rw [hrn.out, HRUN.out, HST.out]; first | done | (rw [pos_add]; done) | (simp; done)
            · exact HBG.out.more HFi.out
            · first | omega | (simp; omega) | (simp only [List.length_append, setRaw_length, List.length_cons, List.length_nil]; omega)
            · first | omega | (simp; omega) | (simp only [List.length_append, List.length_cons, List.length_nil]; omega)
            · omega
          case measure => simp [intOf]; omega
        | true =>
          have hm : marksI L[i] = 0 := hmb.2 hB
          have hpt := Lib.hid (hpl.out (hbc.out hB))
          unfold SepPost at hpt
          rw [hm] at hmk
          have hsTT := Lib.hid (step_TT es ds ls k L[i] hB)
          have hsFT := Lib.hid (step_FT es ds ls k L[i] hB)
          have hsTF := Lib.hid (step_TF es ds ls k L[i] hB)
          have hsQ := Lib.hid (step_Q es ds ls k L[i] hB)
          clear hB hmb hpl hbc hm
          generalize L[i] = f at *
          generalize (Pm.sepOf f).1 = SE at *
          generalize (Pm.sepOf f).2.1 = SD at *
          generalize (Pm.sepOf f).2.2 = SO at *
          cases af with
          | false =>
            have hce : cj.isEmpty = false := hafe.symm
            clear hafe
            cases SO with
            | false =>
              have HST := Lib.hid (hsQ.out rfl)
              clear hsTT hsFT hsTF hsQ
              go_wp2_with (first
                | (go_at_call 27; (with_reducible refine (hcon0.out _).mono ?_); rintro e w' ⟨rfl, rfl⟩)
                | (go_at_call 28; (with_reducible refine (hmk.out _).mono ?_); rintro e w' ⟨rfl, rfl⟩)
                | (go_at_call 29; (with_reducible refine (hpt.out _).mono ?_); rintro e ws ⟨rfl, hbs⟩; have HR1 := Lib.hid (HR.out.step hbs); have q1 := HR1.out.line HFi.out; clear hbs)
                | (at_builtin; refine wpList_append_own _ rfl (.tmp 97) (.tmp 100) 25 rfl w.heap.size 38 iD (.agg #[.int .i64 0, .int .i64 0]) 2 16 Tryz.underlying25 hD hD0 hD1 hD2 rfl (by decide) _ _ _ rfl (HR1.out.dams.alloc _) ⟨_, 0, none⟩ 1 1 [.int .i64 5, .int .i64 (k : Int)] rfl rfl (cells_new' _ _ (by simp) [.int .i64 5, .int .i64 (k : Int)] _) (by simp [Value.oneCell']) (by simp only [maxLen, List.length_append, List.length_cons, List.length_nil]; omega) (by first | omega | (simp only [List.length_append, List.length_cons, List.length_nil]; omega)) (Nat.le_trans HR1.out.below.size (by simp)) ?_; intro v2 w2 ho2 hg2 _; obtain ⟨A2, c2, rfl⟩ := own_form ho2; have HR2 := Lib.hid ((HR1.out.alloc _).addDam ⟨5, (k : Int)⟩ ho2 hg2); have q1 := HR2.out.line HFi.out; clear ho2 hg2))
              go_roundw
              case rel =>
                refine ⟨i + 1, es, ds ++ [⟨5, (k : Int)⟩], ls ++ [f], Pm.blank f, k + f.length, Ae, A2, ce, c2, bg, by first | rfl | (simp; done) | (simp [setRaw_length]; done), by first | rfl | (simp; done), by go_num, by first | rfl | go_num, by go_num, by omega, ?_, ?_, ?_, HAN.out, hkn.out, ?_, ?_, ?_⟩
                · first | exact HR2.out | simpa using HR2.out | simpa [setRaw_nil] using HR2.out | simpa [setRaw_length] using HR2.out
                · rw [hrn.out, HRUN.out, HST.out]; first | done | (rw [pos_add]; done) | (simp; done)
                · exact HBG.out.more HFi.out
                · first | omega | (simp; omega) | (simp only [List.length_append, setRaw_length, List.length_cons, List.length_nil]; omega)
                · first | omega | (simp; omega) | (simp only [List.length_append, List.length_cons, List.length_nil]; omega)
                · omega
              case measure => simp [intOf]; omega
            | true =>
              have HST := Lib.hid (hsTF.out rfl)
              clear hsTT hsFT hsTF hsQ
              rcases HBG.out with ⟨rfl, rfl⟩ | ⟨hpos, b, rfl, hbi, hlsb⟩
              · clear HBG
                go_wp2_with (first
                  | (go_at_call 27; (with_reducible refine (hcon0.out _).mono ?_); rintro e w' ⟨rfl, rfl⟩)
                  | (go_at_call 28; (with_reducible refine (hmk.out _).mono ?_); rintro e w' ⟨rfl, rfl⟩)
                  | (go_at_call 29; (with_reducible refine (hpt.out _).mono ?_); rintro e ws ⟨rfl, hbs⟩; have HR1 := Lib.hid (HR.out.step hbs); have q1 := HR1.out.line HFi.out; clear hbs)
                  | (at_builtin; refine wpList_append_own _ rfl (.tmp 71) (.tmp 75) 22 rfl w.heap.size 30 iE (.agg #[.string .empty, .int .i64 0, .string .empty]) 3 40 Tryz.underlying22 hE hE0 hE1 hE2 rfl (by decide) _ _ _ rfl (HR1.out.ents.alloc _) ⟨_, 0, none⟩ 1 1 [.string ⟨SE.toArray⟩, .int .i64 SD, .string ⟨([] : Pm.Bs).toArray⟩] rfl rfl (cells_new' _ _ (by simp) [.string ⟨SE.toArray⟩, .int .i64 SD, .string ⟨([] : Pm.Bs).toArray⟩] _) (by simp [Value.oneCell']) (by simp only [maxLen, List.length_nil]; omega) (by first | omega | (simp only [List.length_nil]; omega)) (Nat.le_trans HR1.out.below.size (by simp)) ?_; intro v3 w3 ho3 hg3 _; obtain ⟨A3, c3, rfl⟩ := own_form ho3; have HR3 := Lib.hid ((HR1.out.alloc _).addEnt ⟨SE, SD, []⟩ ho3 hg3); have q1 := HR3.out.line HFi.out; clear ho3 hg3)
                  | (at_builtin; refine wpList_append_own _ rfl (.tmp 92) (.tmp 95) 25 rfl w.heap.size 38 iD (.agg #[.int .i64 0, .int .i64 0]) 2 16 Tryz.underlying25 hD hD0 hD1 hD2 rfl (by decide) _ _ _ rfl (HR3.out.dams.alloc _) ⟨_, 0, none⟩ 1 1 [.int .i64 3, .int .i64 (k : Int)] rfl rfl (cells_new' _ _ (by simp) [.int .i64 3, .int .i64 (k : Int)] _) (by simp [Value.oneCell']) (by simp only [maxLen, List.length_append, List.length_cons, List.length_nil]; omega) (by first | omega | (simp only [List.length_append, List.length_cons, List.length_nil]; omega)) (Nat.le_trans HR3.out.below.size (by simp)) ?_; intro v4 w4 ho4 hg4 _; obtain ⟨A4, c4, rfl⟩ := own_form ho4; have HR4 := Lib.hid ((HR3.out.alloc _).addDam ⟨3, (k : Int)⟩ ho4 hg4); have q1 := HR4.out.line HFi.out; clear ho4 hg4))
                go_roundw
                case rel =>
                  refine ⟨i + 1, Pm.setRaw [] (Pm.rawOf ls) ++ [⟨SE, SD, []⟩], ds ++ [⟨3, (k : Int)⟩], [], Pm.blank f, k + f.length, A3, A4, c3, c4, ((i + 1 : Nat) : Int), by first | rfl | (simp; done) | (simp [setRaw_length]; done), by first | rfl | (simp; done), by go_num, by first | rfl | go_num, by go_num, by omega, ?_, ?_, ?_, HAN.out, hkn.out, ?_, ?_, ?_⟩
                  · first | exact HR4.out | simpa using HR4.out | simpa [setRaw_nil] using HR4.out | simpa [setRaw_length] using HR4.out
                  · rw [hrn.out, HRUN.out, HST.out]; first | done | (rw [pos_add]; done) | (simp; done)
                  · exact BG.fresh _ _ _ (by simp)
                  · first | omega | (simp; omega) | (simp only [List.length_append, setRaw_length, List.length_cons, List.length_nil]; omega)
                  · first | omega | (simp; omega) | (simp only [List.length_append, List.length_cons, List.length_nil]; omega)
                  · omega
                case measure => simp [intOf]; omega
              · clear HBG
                have HLSB := Lib.hid hlsb
                clear hlsb
                have hdl : ((L.take i).drop b).length = i - b := by rw [List.length_drop, List.length_take]; omega
                have hraw := Lib.hid (raw_at (some ⟨g, b, none⟩) (cl - b) ((L.take i).drop b) ls (i - b) hdl.symm HLSB.out (by omega) (by omega) (Nat.le_trans (HLI.out.2.2.2 i b) (by omega)))
                unfold StrPost at hraw
                obtain ⟨ge, rfl⟩ := row_some HR.out.ents hpos
                have hb0 : 0 ≤ (b : Int) := by omega
                have hbi' : (b : Int) ≤ (i : Int) := by omega
                have hic : (i : Int) ≤ (cl : Int) := by omega
                have hbc' : ¬ cl = b := by omega
                have hes1 : 0 ≤ (es.length : Int) - 1 := by omega
                have hes2 : 1 ≤ (es.length : Int) := by omega
                have hes3 : (es.length : Int) - 1 < (es.length : Int) := by omega
                go_wp2_with (first
                  | (go_at_call 27; (with_reducible refine (hcon0.out _).mono ?_); rintro e w' ⟨rfl, rfl⟩)
                  | (go_at_call 28; (with_reducible refine (hmk.out _).mono ?_); rintro e w' ⟨rfl, rfl⟩)
                  | (go_at_call 29; (with_reducible refine (hpt.out _).mono ?_); rintro e ws ⟨rfl, hbs⟩; have HR1 := Lib.hid (HR.out.step hbs); have q1 := HR1.out.line HFi.out; clear hbs)
                  | (go_at_call 30; (with_reducible refine (hraw.out _ (HR1.out.strs b i hbi (by omega))).mono ?_); rintro e wf ⟨rfl, hbf⟩; have HRa := Lib.hid (HR1.out.step hbf); obtain ⟨us, qs⟩ := HRa.out.lastCell hpos; have qf := HRa.out.lastFree; have HR2 := Lib.hid (HRa.out.setLast' rfl hpos (Pm.rawOf ls)); clear hbf)
                  | (at_builtin; refine wpList_append_own _ rfl (.tmp 71) (.tmp 75) 22 rfl w.heap.size 30 iE (.agg #[.string .empty, .int .i64 0, .string .empty]) 3 40 Tryz.underlying22 hE hE0 hE1 hE2 rfl (by decide) _ _ _ rfl (HR2.out.ents.alloc _) ⟨_, 0, none⟩ 1 1 [.string ⟨SE.toArray⟩, .int .i64 SD, .string ⟨([] : Pm.Bs).toArray⟩] rfl rfl (cells_new' _ _ (by simp) [.string ⟨SE.toArray⟩, .int .i64 SD, .string ⟨([] : Pm.Bs).toArray⟩] _) (by simp [Value.oneCell']) (by have := setRaw_length es (Pm.rawOf ls); simp only [maxLen, List.length_nil]; omega) (by have := setRaw_length es (Pm.rawOf ls); first | omega | (simp only [List.length_nil]; omega)) (Nat.le_trans HR2.out.below.size (by simp)) ?_; intro v3 w3 ho3 hg3 _; obtain ⟨A3, c3, rfl⟩ := own_form ho3; have HR3 := Lib.hid ((HR2.out.alloc _).addEnt ⟨SE, SD, []⟩ ho3 hg3); have q1 := HR3.out.line HFi.out; clear ho3 hg3)
                  | (at_builtin; refine wpList_append_own _ rfl (.tmp 92) (.tmp 95) 25 rfl w.heap.size 38 iD (.agg #[.int .i64 0, .int .i64 0]) 2 16 Tryz.underlying25 hD hD0 hD1 hD2 rfl (by decide) _ _ _ rfl (HR3.out.dams.alloc _) ⟨_, 0, none⟩ 1 1 [.int .i64 3, .int .i64 (k : Int)] rfl rfl (cells_new' _ _ (by simp) [.int .i64 3, .int .i64 (k : Int)] _) (by simp [Value.oneCell']) (by simp only [maxLen, List.length_append, List.length_cons, List.length_nil]; omega) (by first | omega | (simp only [List.length_append, List.length_cons, List.length_nil]; omega)) (Nat.le_trans HR3.out.below.size (by simp)) ?_; intro v4 w4 ho4 hg4 _; obtain ⟨A4, c4, rfl⟩ := own_form ho4; have HR4 := Lib.hid ((HR3.out.alloc _).addDam ⟨3, (k : Int)⟩ ho4 hg4); have q1 := HR4.out.line HFi.out; clear ho4 hg4))
                go_roundw
                case rel =>
                  refine ⟨i + 1, Pm.setRaw es (Pm.rawOf ls) ++ [⟨SE, SD, []⟩], ds ++ [⟨3, (k : Int)⟩], [], Pm.blank f, k + f.length, A3, A4, c3, c4, ((i + 1 : Nat) : Int), by first | rfl | (simp; done) | (simp [setRaw_length]; done), by first | rfl | (simp; done), by go_num, by first | rfl | go_num, by go_num, by omega, ?_, ?_, ?_, HAN.out, hkn.out, ?_, ?_, ?_⟩
                  · first | exact HR4.out | simpa using HR4.out | simpa [setRaw_nil] using HR4.out | simpa [setRaw_length] using HR4.out
                  · rw [hrn.out, HRUN.out, HST.out]; first | done | (rw [pos_add]; done) | (simp; done)
                  · exact BG.fresh _ _ _ (by simp)
                  · first | omega | (simp; omega) | (simp only [List.length_append, setRaw_length, List.length_cons, List.length_nil]; omega)
                  · first | omega | (simp; omega) | (simp only [List.length_append, List.length_cons, List.length_nil]; omega)
                  · omega
                case measure => simp [intOf]; omega
          | true =>
            have hce : cj.isEmpty = true := hafe.symm
            clear hafe
            cases SO with
            | false =>
              have HST := Lib.hid (hsFT.out rfl)
              clear hsTT hsFT hsTF hsQ
              rcases HBG.out with ⟨rfl, rfl⟩ | ⟨hpos, b, rfl, hbi, hlsb⟩
              · clear HBG
                go_wp2_with (first
                  | (go_at_call 27; (with_reducible refine (hcon0.out _).mono ?_); rintro e w' ⟨rfl, rfl⟩)
                  | (go_at_call 28; (with_reducible refine (hmk.out _).mono ?_); rintro e w' ⟨rfl, rfl⟩)
                  | (go_at_call 29; (with_reducible refine (hpt.out _).mono ?_); rintro e ws ⟨rfl, hbs⟩; have HR1 := Lib.hid (HR.out.step hbs); have q1 := HR1.out.line HFi.out; clear hbs)
                  | (at_builtin; refine wpList_append_own _ rfl (.tmp 71) (.tmp 75) 22 rfl w.heap.size 30 iE (.agg #[.string .empty, .int .i64 0, .string .empty]) 3 40 Tryz.underlying22 hE hE0 hE1 hE2 rfl (by decide) _ _ _ rfl (HR1.out.ents.alloc _) ⟨_, 0, none⟩ 1 1 [.string ⟨SE.toArray⟩, .int .i64 SD, .string ⟨([] : Pm.Bs).toArray⟩] rfl rfl (cells_new' _ _ (by simp) [.string ⟨SE.toArray⟩, .int .i64 SD, .string ⟨([] : Pm.Bs).toArray⟩] _) (by simp [Value.oneCell']) (by simp only [maxLen, List.length_nil]; omega) (by first | omega | (simp only [List.length_nil]; omega)) (Nat.le_trans HR1.out.below.size (by simp)) ?_; intro v3 w3 ho3 hg3 _; obtain ⟨A3, c3, rfl⟩ := own_form ho3; have HR3 := Lib.hid ((HR1.out.alloc _).addEnt ⟨SE, SD, []⟩ ho3 hg3); have q1 := HR3.out.line HFi.out; clear ho3 hg3)
                  | (at_builtin; refine wpList_append_own _ rfl (.tmp 81) (.tmp 84) 25 rfl w.heap.size 38 iD (.agg #[.int .i64 0, .int .i64 0]) 2 16 Tryz.underlying25 hD hD0 hD1 hD2 rfl (by decide) _ _ _ rfl (HR3.out.dams.alloc _) ⟨_, 0, none⟩ 1 1 [.int .i64 2, .int .i64 (k : Int)] rfl rfl (cells_new' _ _ (by simp) [.int .i64 2, .int .i64 (k : Int)] _) (by simp [Value.oneCell']) (by simp only [maxLen, List.length_append, List.length_cons, List.length_nil]; omega) (by first | omega | (simp only [List.length_append, List.length_cons, List.length_nil]; omega)) (Nat.le_trans HR3.out.below.size (by simp)) ?_; intro v4 w4 ho4 hg4 _; obtain ⟨A4, c4, rfl⟩ := own_form ho4; have HR4 := Lib.hid ((HR3.out.alloc _).addDam ⟨2, (k : Int)⟩ ho4 hg4); have q1 := HR4.out.line HFi.out; clear ho4 hg4))
                go_roundw
                case rel =>
                  refine ⟨i + 1, Pm.setRaw [] (Pm.rawOf ls) ++ [⟨SE, SD, []⟩], ds ++ [⟨2, (k : Int)⟩], [], Pm.blank f, k + f.length, A3, A4, c3, c4, ((i + 1 : Nat) : Int), by first | rfl | (simp; done) | (simp [setRaw_length]; done), by first | rfl | (simp; done), by go_num, by first | rfl | go_num, by go_num, by omega, ?_, ?_, ?_, HAN.out, hkn.out, ?_, ?_, ?_⟩
                  · first | exact HR4.out | simpa using HR4.out | simpa [setRaw_nil] using HR4.out | simpa [setRaw_length] using HR4.out
                  · rw [hrn.out, HRUN.out, HST.out]; first | done | (rw [pos_add]; done) | (simp; done)
                  · exact BG.fresh _ _ _ (by simp)
                  · first | omega | (simp; omega) | (simp only [List.length_append, setRaw_length, List.length_cons, List.length_nil]; omega)
                  · first | omega | (simp; omega) | (simp only [List.length_append, List.length_cons, List.length_nil]; omega)
                  · omega
                case measure => simp [intOf]; omega
              · clear HBG
                have HLSB := Lib.hid hlsb
                clear hlsb
                have hdl : ((L.take i).drop b).length = i - b := by rw [List.length_drop, List.length_take]; omega
                have hraw := Lib.hid (raw_at (some ⟨g, b, none⟩) (cl - b) ((L.take i).drop b) ls (i - b) hdl.symm HLSB.out (by omega) (by omega) (Nat.le_trans (HLI.out.2.2.2 i b) (by omega)))
                unfold StrPost at hraw
                obtain ⟨ge, rfl⟩ := row_some HR.out.ents hpos
                have hb0 : 0 ≤ (b : Int) := by omega
                have hbi' : (b : Int) ≤ (i : Int) := by omega
                have hic : (i : Int) ≤ (cl : Int) := by omega
                have hbc' : ¬ cl = b := by omega
                have hes1 : 0 ≤ (es.length : Int) - 1 := by omega
                have hes2 : 1 ≤ (es.length : Int) := by omega
                have hes3 : (es.length : Int) - 1 < (es.length : Int) := by omega
                go_wp2_with (first
                  | (go_at_call 27; (with_reducible refine (hcon0.out _).mono ?_); rintro e w' ⟨rfl, rfl⟩)
                  | (go_at_call 28; (with_reducible refine (hmk.out _).mono ?_); rintro e w' ⟨rfl, rfl⟩)
                  | (go_at_call 29; (with_reducible refine (hpt.out _).mono ?_); rintro e ws ⟨rfl, hbs⟩; have HR1 := Lib.hid (HR.out.step hbs); have q1 := HR1.out.line HFi.out; clear hbs)
                  | (go_at_call 30; (with_reducible refine (hraw.out _ (HR1.out.strs b i hbi (by omega))).mono ?_); rintro e wf ⟨rfl, hbf⟩; have HRa := Lib.hid (HR1.out.step hbf); obtain ⟨us, qs⟩ := HRa.out.lastCell hpos; have qf := HRa.out.lastFree; have HR2 := Lib.hid (HRa.out.setLast' rfl hpos (Pm.rawOf ls)); clear hbf)
                  | (at_builtin; refine wpList_append_own _ rfl (.tmp 71) (.tmp 75) 22 rfl w.heap.size 30 iE (.agg #[.string .empty, .int .i64 0, .string .empty]) 3 40 Tryz.underlying22 hE hE0 hE1 hE2 rfl (by decide) _ _ _ rfl (HR2.out.ents.alloc _) ⟨_, 0, none⟩ 1 1 [.string ⟨SE.toArray⟩, .int .i64 SD, .string ⟨([] : Pm.Bs).toArray⟩] rfl rfl (cells_new' _ _ (by simp) [.string ⟨SE.toArray⟩, .int .i64 SD, .string ⟨([] : Pm.Bs).toArray⟩] _) (by simp [Value.oneCell']) (by have := setRaw_length es (Pm.rawOf ls); simp only [maxLen, List.length_nil]; omega) (by have := setRaw_length es (Pm.rawOf ls); first | omega | (simp only [List.length_nil]; omega)) (Nat.le_trans HR2.out.below.size (by simp)) ?_; intro v3 w3 ho3 hg3 _; obtain ⟨A3, c3, rfl⟩ := own_form ho3; have HR3 := Lib.hid ((HR2.out.alloc _).addEnt ⟨SE, SD, []⟩ ho3 hg3); have q1 := HR3.out.line HFi.out; clear ho3 hg3)
                  | (at_builtin; refine wpList_append_own _ rfl (.tmp 81) (.tmp 84) 25 rfl w.heap.size 38 iD (.agg #[.int .i64 0, .int .i64 0]) 2 16 Tryz.underlying25 hD hD0 hD1 hD2 rfl (by decide) _ _ _ rfl (HR3.out.dams.alloc _) ⟨_, 0, none⟩ 1 1 [.int .i64 2, .int .i64 (k : Int)] rfl rfl (cells_new' _ _ (by simp) [.int .i64 2, .int .i64 (k : Int)] _) (by simp [Value.oneCell']) (by simp only [maxLen, List.length_append, List.length_cons, List.length_nil]; omega) (by first | omega | (simp only [List.length_append, List.length_cons, List.length_nil]; omega)) (Nat.le_trans HR3.out.below.size (by simp)) ?_; intro v4 w4 ho4 hg4 _; obtain ⟨A4, c4, rfl⟩ := own_form ho4; have HR4 := Lib.hid ((HR3.out.alloc _).addDam ⟨2, (k : Int)⟩ ho4 hg4); have q1 := HR4.out.line HFi.out; clear ho4 hg4))
                go_roundw
                case rel =>
                  refine ⟨i + 1, Pm.setRaw es (Pm.rawOf ls) ++ [⟨SE, SD, []⟩], ds ++ [⟨2, (k : Int)⟩], [], Pm.blank f, k + f.length, A3, A4, c3, c4, ((i + 1 : Nat) : Int), by first | rfl | (simp; done) | (simp [setRaw_length]; done), by first | rfl | (simp; done), by go_num, by first | rfl | go_num, by go_num, by omega, ?_, ?_, ?_, HAN.out, hkn.out, ?_, ?_, ?_⟩
                  · first | exact HR4.out | simpa using HR4.out | simpa [setRaw_nil] using HR4.out | simpa [setRaw_length] using HR4.out
                  · rw [hrn.out, HRUN.out, HST.out]; first | done | (rw [pos_add]; done) | (simp; done)
                  · exact BG.fresh _ _ _ (by simp)
                  · first | omega | (simp; omega) | (simp only [List.length_append, setRaw_length, List.length_cons, List.length_nil]; omega)
                  · first | omega | (simp; omega) | (simp only [List.length_append, List.length_cons, List.length_nil]; omega)
                  · omega
                case measure => simp [intOf]; omega
            | true =>
              have HST := Lib.hid (hsTT.out rfl)
              clear hsTT hsFT hsTF hsQ
              rcases HBG.out with ⟨rfl, rfl⟩ | ⟨hpos, b, rfl, hbi, hlsb⟩
              · clear HBG
                go_wp2_with (first
                  | (go_at_call 27; (with_reducible refine (hcon0.out _).mono ?_); rintro e w' ⟨rfl, rfl⟩)
                  | (go_at_call 28; (with_reducible refine (hmk.out _).mono ?_); rintro e w' ⟨rfl, rfl⟩)
                  | (go_at_call 29; (with_reducible refine (hpt.out _).mono ?_); rintro e ws ⟨rfl, hbs⟩; have HR1 := Lib.hid (HR.out.step hbs); have q1 := HR1.out.line HFi.out; clear hbs)
                  | (at_builtin; refine wpList_append_own _ rfl (.tmp 71) (.tmp 75) 22 rfl w.heap.size 30 iE (.agg #[.string .empty, .int .i64 0, .string .empty]) 3 40 Tryz.underlying22 hE hE0 hE1 hE2 rfl (by decide) _ _ _ rfl (HR1.out.ents.alloc _) ⟨_, 0, none⟩ 1 1 [.string ⟨SE.toArray⟩, .int .i64 SD, .string ⟨([] : Pm.Bs).toArray⟩] rfl rfl (cells_new' _ _ (by simp) [.string ⟨SE.toArray⟩, .int .i64 SD, .string ⟨([] : Pm.Bs).toArray⟩] _) (by simp [Value.oneCell']) (by simp only [maxLen, List.length_nil]; omega) (by first | omega | (simp only [List.length_nil]; omega)) (Nat.le_trans HR1.out.below.size (by simp)) ?_; intro v3 w3 ho3 hg3 _; obtain ⟨A3, c3, rfl⟩ := own_form ho3; have HR3 := Lib.hid ((HR1.out.alloc _).addEnt ⟨SE, SD, []⟩ ho3 hg3); have q1 := HR3.out.line HFi.out; clear ho3 hg3))
                go_roundw
                case rel =>
                  refine ⟨i + 1, Pm.setRaw [] (Pm.rawOf ls) ++ [⟨SE, SD, []⟩], ds, [], Pm.blank f, k + f.length, A3, Ad, c3, cd, ((i + 1 : Nat) : Int), by first | rfl | (simp; done) | (simp [setRaw_length]; done), by first | rfl | (simp; done), by go_num, by first | rfl | go_num, by go_num, by omega, ?_, ?_, ?_, HAN.out, hkn.out, ?_, ?_, ?_⟩
                  · first | exact HR3.out | simpa using HR3.out | simpa [setRaw_nil] using HR3.out | simpa [setRaw_length] using HR3.out
                  · rw [hrn.out, HRUN.out, HST.out]; first | done | (rw [pos_add]; done) | (simp; done)
                  · exact BG.fresh _ _ _ (by simp)
                  · first | omega | (simp; omega) | (simp only [List.length_append, setRaw_length, List.length_cons, List.length_nil]; omega)
                  · first | omega | (simp; omega) | (simp only [List.length_append, List.length_cons, List.length_nil]; omega)
                  · omega
                case measure => simp [intOf]; omega
              · clear HBG
                have HLSB := Lib.hid hlsb
                clear hlsb
                have hdl : ((L.take i).drop b).length = i - b := by rw [List.length_drop, List.length_take]; omega
                have hraw := Lib.hid (raw_at (some ⟨g, b, none⟩) (cl - b) ((L.take i).drop b) ls (i - b) hdl.symm HLSB.out (by omega) (by omega) (Nat.le_trans (HLI.out.2.2.2 i b) (by omega)))
                unfold StrPost at hraw
                obtain ⟨ge, rfl⟩ := row_some HR.out.ents hpos
                have hb0 : 0 ≤ (b : Int) := by omega
                have hbi' : (b : Int) ≤ (i : Int) := by omega
                have hic : (i : Int) ≤ (cl : Int) := by omega
                have hbc' : ¬ cl = b := by omega
                have hes1 : 0 ≤ (es.length : Int) - 1 := by omega
                have hes2 : 1 ≤ (es.length : Int) := by omega
                have hes3 : (es.length : Int) - 1 < (es.length : Int) := by omega
                go_wp2_with (first
                  | (go_at_call 27; (with_reducible refine (hcon0.out _).mono ?_); rintro e w' ⟨rfl, rfl⟩)
                  | (go_at_call 28; (with_reducible refine (hmk.out _).mono ?_); rintro e w' ⟨rfl, rfl⟩)
                  | (go_at_call 29; (with_reducible refine (hpt.out _).mono ?_); rintro e ws ⟨rfl, hbs⟩; have HR1 := Lib.hid (HR.out.step hbs); have q1 := HR1.out.line HFi.out; clear hbs)
                  | (go_at_call 30; (with_reducible refine (hraw.out _ (HR1.out.strs b i hbi (by omega))).mono ?_); rintro e wf ⟨rfl, hbf⟩; have HRa := Lib.hid (HR1.out.step hbf); obtain ⟨us, qs⟩ := HRa.out.lastCell hpos; have qf := HRa.out.lastFree; have HR2 := Lib.hid (HRa.out.setLast' rfl hpos (Pm.rawOf ls)); clear hbf)
                  | (at_builtin; refine wpList_append_own _ rfl (.tmp 71) (.tmp 75) 22 rfl w.heap.size 30 iE (.agg #[.string .empty, .int .i64 0, .string .empty]) 3 40 Tryz.underlying22 hE hE0 hE1 hE2 rfl (by decide) _ _ _ rfl (HR2.out.ents.alloc _) ⟨_, 0, none⟩ 1 1 [.string ⟨SE.toArray⟩, .int .i64 SD, .string ⟨([] : Pm.Bs).toArray⟩] rfl rfl (cells_new' _ _ (by simp) [.string ⟨SE.toArray⟩, .int .i64 SD, .string ⟨([] : Pm.Bs).toArray⟩] _) (by simp [Value.oneCell']) (by have := setRaw_length es (Pm.rawOf ls); simp only [maxLen, List.length_nil]; omega) (by have := setRaw_length es (Pm.rawOf ls); first | omega | (simp only [List.length_nil]; omega)) (Nat.le_trans HR2.out.below.size (by simp)) ?_; intro v3 w3 ho3 hg3 _; obtain ⟨A3, c3, rfl⟩ := own_form ho3; have HR3 := Lib.hid ((HR2.out.alloc _).addEnt ⟨SE, SD, []⟩ ho3 hg3); have q1 := HR3.out.line HFi.out; clear ho3 hg3))
                go_roundw
                case rel =>
                  refine ⟨i + 1, Pm.setRaw es (Pm.rawOf ls) ++ [⟨SE, SD, []⟩], ds, [], Pm.blank f, k + f.length, A3, Ad, c3, cd, ((i + 1 : Nat) : Int), by first | rfl | (simp; done) | (simp [setRaw_length]; done), by first | rfl | (simp; done), by go_num, by first | rfl | go_num, by go_num, by omega, ?_, ?_, ?_, HAN.out, hkn.out, ?_, ?_, ?_⟩
                  · first | exact HR3.out | simpa using HR3.out | simpa [setRaw_nil] using HR3.out | simpa [setRaw_length] using HR3.out
                  · rw [hrn.out, HRUN.out, HST.out]; first | done | (rw [pos_add]; done) | (simp; done)
                  · exact BG.fresh _ _ _ (by simp)
                  · first | omega | (simp; omega) | (simp only [List.length_append, setRaw_length, List.length_cons, List.length_nil]; omega)
                  · first | omega | (simp; omega) | (simp only [List.length_append, List.length_cons, List.length_nil]; omega)
                  · omega
                case measure => simp [intOf]; omega
    · have hie : i = L.length := by omega
      subst hie
      have hlt' : ¬ (L.length : Int) < (L.length : Int) := by omega
      have hst := HRUN.out
      rw [List.take_length] at hst
      have hrr := Lib.hid (hrd.out es ds ls af k hst)
      clear hst HRUN hrd HAF HK
      rcases HBG.out with ⟨rfl, rfl⟩ | ⟨hpos, b, rfl, hbi, hlsb⟩
      · clear HBG
        go_wp2
        go_ret2
        unfold ReadPost
        rw [hrr.out, setRaw_nil, endDam_nil, List.append_nil]
        exact ⟨Ae, Ad, ce, cd, rfl, HR.out.ents, HR.out.dams, HR.out.below⟩
      · clear HBG
        rw [List.take_length] at hlsb
        have HLSB := Lib.hid hlsb
        clear hlsb
        have hdl : (L.drop b).length = L.length - b := by rw [List.length_drop]
        have hLpos : 0 < L.length := by omega
        obtain ⟨ge, rfl⟩ := row_some HR.out.ents hpos
        have hb0 : 0 ≤ (b : Int) := by omega
        have hbi' : (b : Int) ≤ (L.length : Int) := by omega
        have hbc : (b : Int) ≤ (cl : Int) := by omega
        have hes1 : 0 ≤ (es.length : Int) - 1 := by omega
        have hes2 : 1 ≤ (es.length : Int) := by omega
        have hes3 : (es.length : Int) - 1 < (es.length : Int) := by omega
        obtain ⟨g, rfl⟩ := row_some HR.out.lns hLpos
        obtain ⟨ab, iab⟩ : ∃ ab, (if cl = b then some (⟨g, 0, none⟩ : Addr) else some ⟨g, b, none⟩) = some ⟨g, ab, none⟩ := by split <;> exact ⟨_, rfl⟩
        have hstrs := Lib.hid (fun wq (h : RS w es ds L (.slice (some ⟨ge, 0, none⟩) es.length ce) (.slice Ad ds.length cd) (.slice (some ⟨g, 0, none⟩) L.length cl) wq) => strs_end h hcl iab)
        have hfl2 : (L.drop b).flatten.length ≤ 100000 := by
          have h := HLI.out.2.2.2 L.length b
          rw [List.take_length] at h
          omega
        have hraw := Lib.hid (raw_at (some ⟨g, ab, none⟩) (cl - b) (L.drop b) ls (L.length - b) hdl.symm HLSB.out (by omega) (by omega) (by omega))
        unfold StrPost at hraw
        have hrl := rawOf_le ls
        rw [HLSB.out] at hrl
        have hrb := Lib.hid (fun w => rblank_any (Pm.rawOf ls) (by rw [HLSB.out]; omega) w)
        unfold BoolPost at hrb
        have hed := Lib.hid (endDam_last es (Pm.rawOf ls) l.length hpos)
        clear hrl
        cases hH : Pm.hasBlank (Pm.rawOf ls) with
        | true =>
          have hrr2 : Hid (Pm.read l = (Pm.setRaw es (Pm.rawOf ls), ds)) := Lib.hid (by rw [hrr.out, hed.out, if_pos hH, List.append_nil])
          rw [hH] at hrb
          clear hH hed hrr
          go_wp2_with (first
            | (go_at_call 30; (with_reducible refine (hraw.out _ (hstrs.out _ HR.out)).mono ?_); rintro e wf ⟨rfl, hbf⟩; have HRa := Lib.hid (HR.out.step hbf); obtain ⟨us, qs⟩ := HRa.out.lastCell hpos; have qf := HRa.out.lastFree; have HR2 := Lib.hid (HRa.out.setLast' rfl hpos (Pm.rawOf ls)); clear hbf)
            | (go_at_call 31; (with_reducible refine (hrb.out _).mono ?_); rintro e wg ⟨rfl, hbg⟩; have HR3 := Lib.hid (HR2.out.step hbg); clear hbg))
          go_ret2
          unfold ReadPost
          rw [hrr2.out]
          exact ⟨some ⟨ge, 0, none⟩, Ad, ce, cd, by simp [setRaw_length], by simpa [setRaw_length] using HR3.out.ents, HR3.out.dams, HR3.out.below⟩
        | false =>
          have hrr2 : Hid (Pm.read l = (Pm.setRaw es (Pm.rawOf ls), ds ++ [⟨4, (l.length : Int)⟩])) := Lib.hid (by rw [hrr.out, hed.out, if_neg (by rw [hH]; simp)])
          rw [hH] at hrb
          clear hH hed hrr
          go_wp2_with (first
            | (go_at_call 30; (with_reducible refine (hraw.out _ (hstrs.out _ HR.out)).mono ?_); rintro e wf ⟨rfl, hbf⟩; have HRa := Lib.hid (HR.out.step hbf); obtain ⟨us, qs⟩ := HRa.out.lastCell hpos; have qf := HRa.out.lastFree; have HR2 := Lib.hid (HRa.out.setLast' rfl hpos (Pm.rawOf ls)); clear hbf)
            | (go_at_call 31; (with_reducible refine (hrb.out _).mono ?_); rintro e wg ⟨rfl, hbg⟩; have HR3 := Lib.hid (HR2.out.step hbg); clear hbg)
            | (at_builtin; refine wpList_append_own _ rfl (.tmp 135) (.tmp 139) 25 rfl w.heap.size 38 iD (.agg #[.int .i64 0, .int .i64 0]) 2 16 Tryz.underlying25 hD hD0 hD1 hD2 rfl (by decide) _ _ _ rfl (HR3.out.dams.alloc _) ⟨_, 0, none⟩ 1 1 [.int .i64 4, .int .i64 (l.length : Int)] rfl rfl (cells_new' _ _ (by simp) [.int .i64 4, .int .i64 (l.length : Int)] _) (by simp [Value.oneCell']) (by simp only [maxLen]; omega) (by omega) (Nat.le_trans HR3.out.below.size (by simp)) ?_; intro v4 w4 ho4 hg4 _; obtain ⟨A4, c4, rfl⟩ := own_form ho4; have HR4 := Lib.hid ((HR3.out.alloc _).addDam ⟨4, (l.length : Int)⟩ ho4 hg4); clear ho4 hg4))
          go_ret2
          unfold ReadPost
          rw [hrr2.out]
          exact ⟨some ⟨ge, 0, none⟩, A4, ce, c4, by simp [setRaw_length], by simpa [setRaw_length] using HR4.out.ents, by simpa using HR4.out.dams, HR4.out.below⟩
end Go.Proofs.YtbhhaehdoiaihaaGreatDoor
