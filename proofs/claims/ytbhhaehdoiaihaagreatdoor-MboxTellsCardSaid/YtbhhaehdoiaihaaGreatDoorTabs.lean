/- What the rows' list gives the walks: the package tables; and a world for the witnesses. -/
import Derived.Test.YtbhhaehdoiaihaaGreatDoorWa
import Derived.Lib.LaidTab
import Derived.LaidMore
import Derived.Stop.LaidErr
import Derived.MakeChecks
import Derived.Shelf.Vars
namespace Go.Proofs.YtbhhaehdoiaihaaGreatDoor
open Go.RowKit

def laidAll : List (String × DataW Unit) := [("math/bits.deBruijn32tab", Rows.laid_math_bits_deBruijn32tab), ("math/bits.deBruijn64tab", Rows.laid_math_bits_deBruijn64tab), ("internal/strconv.uint64pow10", Rows.laid_internal_strconv_uint64pow10), ("unicode/utf8.acceptRanges", Rows.laid_unicode_utf8_acceptRanges), ("missive/date.dayNames", Rows.laid_missive_date_dayNames), ("missive/date.monthNames", Rows.laid_missive_date_monthNames), ("missive/date.monthDays", Rows.laid_missive_date_monthDays), ("unicode/utf8.first", Rows.laid_unicode_utf8_first)]

def strData {H : Type} (ss : List Pm.Bs) : DataW H := .agg (ss.map fun b => .lit (.string b))
/-- An array of strings that reads as the list holds the list's strings, cell for cell. -/
theorem cells_of_strs {H : Type} {enc : TypeId × Value → H} {P : Program} {w : World} {base : Nat} {sp : Nat → Bool} {held : Bool} {fuel : Nat} {t e : TypeId} {n : Nat} {cs : List Value} {ss : List Pm.Bs} {p : List MemPlace}
    (ht : P.underlying t = some (.array n e)) (he : P.underlying e = some .string) (hce : P.cellsOf e = 1) (hct : P.cellsOf t = n)
    (h : DataW.trod enc P w base sp held fuel t cs = some (strData ss, p)) : cs = ss.map fun b => Value.string ⟨b.toArray⟩ := by
  cases fuel with
  | zero => simp [DataW.trod] at h
  | succ fuel =>
    simp only [DataW.trod, ht, hce, hct, Nat.mul_one] at h
    split at h
    · rename_i hl
      obtain ⟨xs, hm, hx⟩ := Option.map_eq_some_iff.1 h
      have hxs : xs.map (·.1) = ss.map fun b => (DataW.lit (.string b) : DataW H) := by
        have := congrArg Prod.fst hx
        simpa [strData] using this
      have hxl : xs.length = n := by simpa using Lib.mapM_length hm
      have hzl : ss.length = n := by
        have := congrArg List.length hxs
        simp at this
        omega
      apply List.ext_getElem?
      intro i
      by_cases hi : i < n
      · obtain ⟨b, hb, hf⟩ := Lib.mapM_at hm i i (by simp [hi])
        obtain ⟨z, hc, rfl, _⟩ := DataW.trod_string he hf
        have h1 : cs[i]? = some (.string z) := by
          have := congrArg (·[0]?) hc
          simpa [List.getElem?_take, List.getElem?_drop] using this
        have h2 : (xs.map (·.1))[i]? = some (DataW.lit (.string z.data.toList) : DataW H) := by simp [hb]
        rw [hxs] at h2
        simp only [List.getElem?_map, Option.map_eq_some_iff, DataW.lit.injEq, Lit.string.injEq] at h2
        obtain ⟨z', hz', e⟩ := h2
        have hz : z = ⟨z'.toArray⟩ := by obtain ⟨⟨l⟩⟩ := z; simp at e; subst e; rfl
        simp [h1, hz', hz]
      · rw [List.getElem?_eq_none (by omega), List.getElem?_eq_none (by simp; omega)]
    · cases h
theorem strs_of_head {P : Program} {W : World} {name : String} {ss : List Pm.Bs} {rest : List (String × DataW Unit)} {g : Nat} {t e : TypeId} {n : Nat}
    (hg : P.globalNamed name = some g) (hty : (P.globals[g]?).map (·.type) = some t) (ht : P.underlying t = some (.array n e)) (he : P.underlying e = some .string) (hce : P.cellsOf e = 1) (hct : P.cellsOf t = n)
    (h : laidMet P ((name, strData ss) :: rest) W) : W.var? P name = some (ss.map fun b => Value.string ⟨b.toArray⟩).toArray := by
  obtain ⟨ps, ⟨g', t', cs, fuel, p, q, hg', ht', hvar, hd, _, _⟩, _⟩ := h
  obtain rfl := Option.some.inj (hg.symm.trans hg')
  obtain rfl := Option.some.inj (hty.symm.trans ht')
  rw [hvar, ← cells_of_strs ht he hce hct hd]
theorem var_block {P : Program} {W : World} {name : String} {g : Nat} {cs : Array Value} (hg : P.globalNamed name = some g) (h : W.var? P name = some cs) : ∃ t f, W.heap[g]? = some (.cells cs t f) := by
  unfold World.var? at h
  rw [hg] at h
  simp only [Option.bind_some] at h
  split at h
  · next cs' t f e => injection h with h; subst h; exact ⟨t, f, e⟩
  · cases h

theorem gMonths : Tryz.prog.globalNamed "missive/date.monthNames" = some 0 := by kernel_rfl
theorem gDays : Tryz.prog.globalNamed "missive/date.dayNames" = some 1 := by kernel_rfl
theorem gMds : Tryz.prog.globalNamed "missive/date.monthDays" = some 2 := by kernel_rfl

theorem tab_of_laid {W : World} (h0 : laidMetH Tryz.prog laidAll W) (hsh : W.ShapedOpen Tryz.prog) : Tab W := by
  have h : laidMet Tryz.prog laidAll W := by rwa [MakeChecks.laidMetH_plain _ _ _ (by kernel_rfl)] at h0
  have h3 := h.tail.tail
  have h5 := h3.tail.tail
  have h6 := h5.tail
  have h7 := h6.tail
  have v3 : Lib.TabIs Tryz.prog W "internal/strconv.uint64pow10" .u64 Lib.pow10Tab :=
    Lib.tabIs_of_head (rest := _) gPow (by kernel_rfl) (t := 131) (e := 110) (n := 20) (by kernel_rfl) (by kernel_rfl) (by kernel_rfl) (by kernel_rfl) h3
  have v5 := strs_of_head (ss := (List.range 7).map Pm.dayName) gDays (by kernel_rfl) (t := 75) (e := 9) (n := 7) (by kernel_rfl) (by kernel_rfl) (by kernel_rfl) (by kernel_rfl) h5
  have v6 := strs_of_head (ss := (List.range 12).map Pm.monthName) gMonths (by kernel_rfl) (t := 64) (e := 9) (n := 12) (by kernel_rfl) (by kernel_rfl) (by kernel_rfl) (by kernel_rfl) h6
  have v7 : Lib.TabIs Tryz.prog W "missive/date.monthDays" .i64 ((List.range 12).map Pm.mdays) :=
    Lib.tabIs_of_head (rest := _) gMds (by kernel_rfl) (t := 93) (e := 3) (n := 12) (by kernel_rfl) (by kernel_rfl) (by kernel_rfl) (by kernel_rfl) h7
  refine ⟨var_block gMonths (v6.trans (by rfl)), var_block gDays (v5.trans (by rfl)), var_block gMds (v7.trans (by rfl)), v3, ?_⟩
  exact cell_of_shapedOpen_int (t := 3) (zero := #[.int .i64 0]) hsh (of_decide_eq_true (by kernel_rfl)) (by kernel_rfl) rfl (by kernel_rfl) (by kernel_rfl) (by kernel_rfl)

/-- A world for the witnesses: the heap that the door's own run leaves, and Go's own table unicode/utf8.first beside it. -/
def firstV : Array Value := match (Go.Pinned.utf8First : DataW Unit) with
  | .agg ds => (ds.map fun | .lit (.int k n) => Value.int k n | _ => undef).toArray
  | _ => #[]
noncomputable def laidWorld (os : Os) : World :=
  { World.doorLaid Tryz.prog 400 os with heap := (World.doorLaid Tryz.prog 400 os).heap.modify 4 fun
      | .cells _ t frozen => .cells firstV t frozen
      | o => o }
theorem laid_met (os : Os) (args : Array Value) : laidMet Tryz.prog laidAll ((laidWorld os).forCall (fun _ _ => 0) ⟨#[], args, []⟩).memory :=
  laidMet_of_run' 8 (by kernel_rfl) (by kernel_rfl)
end Go.Proofs.YtbhhaehdoiaihaaGreatDoor
