/-
  PROVED HERE: where lex.marks and expr.levels read as their texts lay them, their cells hold these. Conditions: as each theorem states.
-/
import Derived.Test.YtofmheeiplagjaaGreatDoorExpF
import Derived.LaidHandle
import Derived.Lib.LaidTab
import Derived.Deep.DeepLaidRun
import Derived.Deep.Strs
namespace Go.Proofs.YtofmheeiplagjaaGreatDoor.Tm
open Go.RowKit Go.Lib Go.Proofs.YtofmheeiplagjaaGreatDoor.Lex Go.Proofs.YtofmheeiplagjaaGreatDoor.Dig
theorem add_none0 (b o n : Nat) : (⟨b, o, none⟩ : Addr).add n = ⟨b, o + n, none⟩ := by
  unfold Addr.add
  by_cases h : n = 0 <;> simp [h]
variable {H : Type} {enc : TypeId × Value → H} {P : Program} {w : World} {sp : Nat → Bool} {held : Bool} {fuel : Nat}
theorem strs_of_slice {t e : TypeId} {cs : List Value} {zs : List (List UInt8)} {p : List MemPlace} (ht : P.underlying t = some (.slice e)) (he : P.underlying e = some .string) (hce : P.cellsOf e = 1) (hz : 0 < zs.length)
    (h : DataW.trod enc P w 0 sp held fuel t cs = some (.slice (zs.map fun z => .lit (.string z)) [], p)) :
    ∃ b o c, cs = [.slice (some ⟨b, o, none⟩) zs.length c] ∧ b < w.heap.size ∧ ∀ j (hj : j < zs.length), w.cell? ⟨b, o + j, none⟩ = some (.string ⟨zs[j].toArray⟩) := by
  rcases Go.Deep.open_strs ht he hce h with ⟨_, hx⟩ | ⟨⟨b, o, s⟩, len, cap, m, Sx, rfl, _, hlc, _, hm, hx, hcell⟩
  · cases hx
  · have hx := congrArg Prod.fst hx
    simp only [DataW.slice.injEq] at hx
    obtain ⟨h1, h2⟩ := hx
    have hl : zs.length = len := by
      have := congrArg List.length h1
      simpa using this
    have hml : len ≤ m := by rw [hm]; split <;> omega
    obtain ⟨c0, _⟩ := hcell 0 (by omega)
    have hs : s = none := by
      rw [show (⟨b, o, s⟩ : Addr).add 0 = ⟨b, o, s⟩ by simp [Addr.add]] at c0
      unfold World.cell? at c0
      cases s with
      | none => rfl
      | some x => simp at c0; split at c0 <;> simp at c0
    subst hs
    refine ⟨b, o, cap, by rw [hl], World.block_lt_of_cell? w _ c0, fun j hj => ?_⟩
    obtain ⟨cj, _⟩ := hcell j (by omega)
    rw [add_none0] at cj
    rw [cj]
    have h3 := congrArg (·[j]?) h1
    simp only [List.getElem?_map, List.getElem?_eq_getElem hj, List.getElem?_range (show j < len by omega), Option.map_some, Option.some.injEq, DataW.lit.injEq, Lit.string.injEq] at h3
    rw [h3]
/-- An array of strings that reads as a table holds the table's strings, cell for cell. -/
theorem strs_of_tab0 {H : Type} {enc : TypeId × Value → H} {P : Program} {w : World} {base : Nat} {sp : Nat → Bool} {held : Bool} {fuel : Nat} {t e : TypeId} {n : Nat} {cs : List Value} {zs : List (List UInt8)} {p : List MemPlace}
    (ht : P.underlying t = some (.array n e)) (he : P.underlying e = some .string) (hce : P.cellsOf e = 1) (hct : P.cellsOf t = n)
    (h : DataW.trod enc P w base sp held fuel t cs = some (.agg (zs.map fun z => .lit (.string z)), p)) : cs = zs.map fun z => Value.string ⟨z.toArray⟩ := by
  cases fuel with
  | zero => simp [DataW.trod] at h
  | succ fuel =>
    simp only [DataW.trod, ht, hce, hct, Nat.mul_one] at h
    split at h
    · rename_i hl
      obtain ⟨xs, hm, hx⟩ := Option.map_eq_some_iff.1 h
      have hxs : xs.map (·.1) = zs.map fun z => (DataW.lit (.string z) : DataW H) := by
        have := congrArg Prod.fst hx
        simpa using this
      have hxl : xs.length = n := by simpa using mapM_length hm
      have hzl : zs.length = n := by
        have := congrArg List.length hxs
        simp at this
        omega
      apply List.ext_getElem?
      intro i
      by_cases hi : i < n
      · obtain ⟨b, hb, hf⟩ := mapM_at hm i i (by simp [hi])
        obtain ⟨z, hc, rfl, _⟩ := DataW.trod_string he hf
        have h1 : cs[i]? = some (.string z) := by
          have := congrArg (·[0]?) hc
          simpa [List.getElem?_take, List.getElem?_drop] using this
        have h2 : (xs.map (·.1))[i]? = some (DataW.lit (.string z.data.toList) : DataW H) := by simp [hb]
        rw [hxs] at h2
        simp only [List.getElem?_map, Option.map_eq_some_iff, DataW.lit.injEq, Lit.string.injEq] at h2
        obtain ⟨z', hz', e'⟩ := h2
        have e2 : (⟨z'.toArray⟩ : ByteArray) = z := by rw [e', Array.toArray_toList]
        rw [h1, List.getElem?_map, hz', Option.map_some, e2]
      · rw [List.getElem?_eq_none (by omega), List.getElem?_eq_none (by simp; omega)]
    · cases h
theorem parts_of_arr {t e : TypeId} {n : Nat} {cs : List Value} {ds : List (DataW H)} {p : List MemPlace} (ht : P.underlying t = some (.array n e)) (hce : P.cellsOf e = 1) (hct : P.cellsOf t = n)
    (h : DataW.trod enc P w 0 sp held fuel t cs = some (.agg ds, p)) : ∀ i, i < n → ∃ (c : Value) (d : DataW H) (f : Nat) (q : List MemPlace), cs[i]? = some c ∧ ds[i]? = some d ∧ DataW.trod enc P w 0 sp held f e [c] = some (d, q) := by
  cases fuel with
  | zero => simp [DataW.trod] at h
  | succ fuel =>
    simp only [DataW.trod, ht, hce, hct, Nat.mul_one] at h
    split at h
    · rename_i hl
      obtain ⟨xs, hm, hx⟩ := Option.map_eq_some_iff.1 h
      have hxs : xs.map (·.1) = ds := by
        have := congrArg Prod.fst hx
        simpa using this
      intro i hi
      obtain ⟨b, hb, hf⟩ := mapM_at hm i i (by simp [hi])
      have hcl : cs.length = n := by simpa using hl
      obtain ⟨c, hc⟩ : ∃ c, cs[i]? = some c := ⟨cs[i], List.getElem?_eq_getElem (by omega)⟩
      have h1 : (cs.drop i).take 1 = [c] := by
        rw [List.take_one, List.head?_drop, hc]
        rfl
      rw [h1] at hf
      exact ⟨c, b.1, fuel, b.2, hc, by rw [← hxs, List.getElem?_map, hb]; rfl, hf⟩
    · cases h
def lvz : List (List (List UInt8)) := [[[61, 61], [33, 61], [60], [62]], [[43], [45], [124]], [[42], [38]]]
theorem lvz_lvs : ∀ k, k < 3 → (lvz.getD k []).map (fun z => (⟨z.toArray⟩ : ByteArray)) = lvs k := by
  intro k hk
  have hc : k = 0 ∨ k = 1 ∨ k = 2 := by omega
  rcases hc with rfl | rfl | rfl <;> rfl
set_option maxRecDepth 100000 in
theorem both_of_laid {W : World} (hg : Err.Home W) (h : laidMet Tryz.prog [("escritoire/lex.marks", Rows.laid_escritoire_lex_marks), ("escritoire/expr.levels", Rows.laid_escritoire_expr_levels)] W) : HomeM W ∧ LH W.heap.size W := by
  have hg1 : Tryz.prog.globalNamed "escritoire/lex.marks" = some 1 := by kernel_rfl
  have hty1 : (Tryz.prog.globals[1]?).map (·.type) = some 151 := by kernel_rfl
  have hct1 : Tryz.prog.cellsOf 151 = 18 := by kernel_rfl
  have hce : Tryz.prog.cellsOf 9 = 1 := by kernel_rfl
  have hg2 : Tryz.prog.globalNamed "escritoire/expr.levels" = some 0 := by kernel_rfl
  have hty2 : (Tryz.prog.globals[0]?).map (·.type) = some 120 := by kernel_rfl
  have hct2 : Tryz.prog.cellsOf 120 = 3 := by kernel_rfl
  have hce2 : Tryz.prog.cellsOf 119 = 1 := by kernel_rfl
  obtain ⟨ps, ⟨g1, t1, cs1, f1, p1, q1, hg1', ht1', hv1, hd1, ⟨g2, t2, cs2, f2, p2, q2, hg2', ht2', hv2, hd2, _, _⟩, _⟩, _⟩ := h
  obtain rfl := Option.some.inj (hg1.symm.trans hg1')
  obtain rfl := Option.some.inj (hty1.symm.trans ht1')
  obtain rfl := Option.some.inj (hg2.symm.trans hg2')
  obtain rfl := Option.some.inj (hty2.symm.trans ht2')
  have hd2' := hd2
  rw [show (Rows.laid_escritoire_expr_levels : DataW Unit) = .agg (lvz.map fun l => .slice (l.map fun z => .lit (.string z)) []) from rfl] at hd2'
  refine ⟨?_, hg, block_lt_of_cell (a := ⟨2, 0, none⟩) hg, ?_, ?_⟩
  · rw [show (Rows.laid_escritoire_lex_marks : DataW Unit) = .agg (mkl.map fun z => .lit (.string z)) from rfl] at hd1
    have hc := strs_of_tab0 Tryz.underlying151 Tryz.underlying9 hce hct1 hd1
    intro j hj
    have hv := World.var?_cell hg1 hv1 j
    rw [hv]
    have : cs1[j]? = (mkl.map fun z => Value.string ⟨z.toArray⟩)[j]? := by rw [← hc]; simp
    rw [this, List.getElem?_map]
    unfold mks
    have hl : mkl.length = 18 := rfl
    rw [List.getElem?_eq_getElem (by omega), List.getD_eq_getElem?_getD, List.getElem?_eq_getElem (by omega)]
    rfl
  · obtain ⟨c, _, _, _, hc, _, _⟩ := parts_of_arr Tryz.underlying120 hce2 hct2 hd2' 0 (by omega)
    have hv := World.var?_cell hg2 hv2 0
    have hc' : cs2[0]? = some c := by simpa using hc
    rw [hc'] at hv
    exact World.block_lt_of_cell? W _ hv
  · intro k hk
    obtain ⟨c, d, f, q, hc, hd, htr⟩ := parts_of_arr Tryz.underlying120 hce2 hct2 hd2' k hk
    have hz := lvz_lvs k hk
    have hz0 : 0 < (lvz.getD k []).length := by
      have hcs : k = 0 ∨ k = 1 ∨ k = 2 := by omega
      rcases hcs with rfl | rfl | rfl <;> decide
    have hdk : d = .slice ((lvz.getD k []).map fun z => .lit (.string z)) [] := by
      have hcs : k = 0 ∨ k = 1 ∨ k = 2 := by omega
      rcases hcs with rfl | rfl | rfl <;> (injection hd with hd; exact hd.symm)
    rw [hdk] at htr
    generalize lvz.getD k [] = zs at *
    obtain ⟨b, o, c', hcc, hb, hcell⟩ := strs_of_slice Tryz.underlying119 Tryz.underlying9 hce hz0 htr
    injection hcc with hcc _
    subst hcc
    have hlen : (lvs k).length = zs.length := by rw [← hz, List.length_map]
    refine ⟨b, o, c', ?_, hb, fun j hj => ?_⟩
    · have hv := World.var?_cell hg2 hv2 k
      rw [hv, hlen]
      simpa using hc
    · rw [hcell j (by omega)]
      simp only [← hz, List.getElem_map]
end Go.Proofs.YtofmheeiplagjaaGreatDoor.Tm
