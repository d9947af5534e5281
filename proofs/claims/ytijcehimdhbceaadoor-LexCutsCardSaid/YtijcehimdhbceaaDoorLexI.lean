/-
  PROVED HERE: where lex.marks reads as its text lays it, its cells hold the marks. Conditions: as each theorem states.
-/
import Derived.Test.YtijcehimdhbceaaDoorLexH
import Derived.LaidHandle
import Derived.Lib.LaidTab
import Derived.Deep.DeepLaidRun
namespace Go.Proofs.YtijcehimdhbceaaDoor.Lex
open Go.RowKit Go.Lib
/-- An array of strings that reads as a table holds the table's strings, cell for cell. -/
theorem strs_of_tab {H : Type} {enc : TypeId × Value → H} {P : Program} {w : World} {base : Nat} {sp : Nat → Bool} {held : Bool} {fuel : Nat} {t e : TypeId} {n : Nat} {cs : List Value} {zs : List (List UInt8)} {p : List MemPlace}
    (ht : P.underlying t = some (.array n e)) (he : P.underlying e = some .string) (hce : P.cellsOf e = 1) (hct : P.cellsOf t = n)
    (h : DataW.trod enc P w base sp held fuel t cs = some (.agg (zs.map fun z => .lit (.string z)), p)) : cs = zs.map fun z => Value.string ⟨z.toArray⟩ := by
  cases fuel with
  | zero => simp [DataW.trod] at h
  | succ fuel =>
    simp only [DataW.trod, ht, hce, hct, Nat.mul_one] at h
    split at h
    · rename_i hl
      obtain ⟨xs, hm, hx⟩ := Option.map_eq_some_iff.1 h
      have hxs : xs.map (·.1) = zs.map fun z => (DataW.lit (.string z) : DataW H) := by
        have := congrArg Prod.fst hx
        simpa using this
      have hxl : xs.length = n := by simpa using mapM_length hm
      have hzl : zs.length = n := by
        have := congrArg List.length hxs
        simp at this
        omega
      apply List.ext_getElem?
      intro i
      by_cases hi : i < n
      · obtain ⟨b, hb, hf⟩ := mapM_at hm i i (by simp [hi])
        obtain ⟨z, hc, rfl, _⟩ := DataW.trod_string he hf
        have h1 : cs[i]? = some (.string z) := by
          have := congrArg (·[0]?) hc
          simpa [List.getElem?_take, List.getElem?_drop] using this
        have h2 : (xs.map (·.1))[i]? = some (DataW.lit (.string z.data.toList) : DataW H) := by simp [hb]
        rw [hxs] at h2
        simp only [List.getElem?_map, Option.map_eq_some_iff, DataW.lit.injEq, Lit.string.injEq] at h2
        obtain ⟨z', hz', e'⟩ := h2
        have e2 : (⟨z'.toArray⟩ : ByteArray) = z := by rw [e', Array.toArray_toList]
        rw [h1, List.getElem?_map, hz', Option.map_some, e2]
      · rw [List.getElem?_eq_none (by omega), List.getElem?_eq_none (by simp; omega)]
    · cases h
theorem homeM_of_laid {W : World} (h : laidMet Tryd.prog [("escritoire/lex.marks", Rows.laid_escritoire_lex_marks)] W) : HomeM W := by
  have hg : Tryd.prog.globalNamed "escritoire/lex.marks" = some 0 := by kernel_rfl
  have hty : (Tryd.prog.globals[0]?).map (·.type) = some 71 := by kernel_rfl
  have hct : Tryd.prog.cellsOf 71 = 18 := by kernel_rfl
  have hce : Tryd.prog.cellsOf 9 = 1 := by kernel_rfl
  obtain ⟨ps, ⟨g', t', cs, fuel, p, q, hg', ht', hvar, hd, _, _⟩, _⟩ := h
  obtain rfl := Option.some.inj (hg.symm.trans hg')
  obtain rfl := Option.some.inj (hty.symm.trans ht')
  have e : (Rows.laid_escritoire_lex_marks : DataW Unit) = .agg (mkl.map fun z => .lit (.string z)) := rfl
  rw [e] at hd
  have hc := strs_of_tab Tryd.underlying71 Tryd.underlying9 hce hct hd
  intro j hj
  have hv := World.var?_cell hg hvar j
  rw [hv]
  have : cs[j]? = (mkl.map fun z => Value.string ⟨z.toArray⟩)[j]? := by rw [← hc]; simp
  rw [this, List.getElem?_map]
  unfold mks
  have hl : mkl.length = 18 := rfl
  rw [List.getElem?_eq_getElem (by omega), List.getD_eq_getElem?_getD, List.getElem?_eq_getElem (by omega)]
  rfl
end Go.Proofs.YtijcehimdhbceaaDoor.Lex
