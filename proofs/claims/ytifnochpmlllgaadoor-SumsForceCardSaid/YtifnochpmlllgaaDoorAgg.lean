/-
  PROVED HERE: a struct of one-cell fields, by value, opened: any number of fields, and five, over any program. Conditions: as each theorem states.
-/
import Derived.Test.YtifnochpmlllgaaDoorMem
import Derived.Lib.SmallJoins
namespace Go.Proofs.YtifnochpmlllgaaDoor
open Go.Joins Go.ChangeShapes Go.WideShapes Go.RowKit Go.Deep
section
variable {H : Type} {enc : TypeId × Value → H} {P : Program} {w : World} {base : Nat} {spare : Nat → Bool} {held : Bool}
/-- Any number of fields: the value's cells, and each one's reading. -/
theorem open_fields {r : Reach} {b0 : Nat} {t : TypeId} {fs : Array Field} {v : Value} {d : DataW H} {p : List MemPlace} (hs : P.underlying t = some (.struct fs)) (hone : oneCellFields P fs = true) (hC : P.cellsOf t = fs.size)
    (hv : Value.okWide P w r b0 t v) (h : DataW.Trod enc P w base spare held t v d p) :
    ∃ (cs : List Value) (ys : List (DataW H × List MemPlace)) (n : Nat), v = .agg cs.toArray ∧ cs.length = fs.size ∧ ys.length = fs.size ∧ d = .agg (ys.map (·.1)) ∧ p = ys.flatMap (·.2) ∧
      ∀ (j : Nat) (f : Field) (c : Value), fs[j]? = some f → cs[j]? = some c → ∃ y, ys[j]? = some y ∧ DataW.trod enc P w base spare held n f.type [c] = some y := by
  obtain ⟨⟨cs⟩, rfl, hsz⟩ := okWide_struct hs hv
  obtain ⟨fuel, hf⟩ := h
  obtain ⟨ys, n, _, hx, _, hlen, hg⟩ := DataW.trod_struct hs hf
  simp only [Prod.mk.injEq] at hx
  refine ⟨cs, ys, n, rfl, hsz.trans hC, hlen, hx.1, hx.2, fun j f c hj hc => ?_⟩
  obtain ⟨o, k⟩ := hone_of hone j f hj
  have hg1 := hg j f hj
  rw [o, k] at hg1
  have hjy : j < ys.length := by
    have := (Array.getElem?_eq_some_iff.1 hj).1
    omega
  refine ⟨ys[j], List.getElem?_eq_getElem hjy, ?_⟩
  obtain ⟨hjc, hcc⟩ := List.getElem?_eq_some_iff.1 hc
  have e : ((Value.agg cs.toArray).cells.toList.drop j).take 1 = [c] := by
    show (cs.drop j).take 1 = [c]
    rw [List.drop_eq_getElem_cons hjc, hcc]
    rfl
  rw [e, List.getElem?_eq_getElem hjy] at hg1
  exact hg1
/-- Five fields. -/
theorem open_agg5 {r : Reach} {b0 : Nat} {t : TypeId} {f0 f1 f2 f3 f4 : Field} {v : Value} {d : DataW H} {p : List MemPlace} (hs : P.underlying t = some (.struct #[f0, f1, f2, f3, f4])) (hone : oneCellFields P #[f0, f1, f2, f3, f4] = true) (hC : P.cellsOf t = 5)
    (hv : Value.okWide P w r b0 t v) (h : DataW.Trod enc P w base spare held t v d p) :
    ∃ (v0 v1 v2 v3 v4 : Value) (y0 y1 y2 y3 y4 : DataW H × List MemPlace) (n : Nat), v = .agg #[v0, v1, v2, v3, v4] ∧ d = .agg [y0.1, y1.1, y2.1, y3.1, y4.1] ∧ p = y0.2 ++ (y1.2 ++ (y2.2 ++ (y3.2 ++ y4.2))) ∧
      DataW.trod enc P w base spare held n f0.type [v0] = some y0 ∧ DataW.trod enc P w base spare held n f1.type [v1] = some y1 ∧ DataW.trod enc P w base spare held n f2.type [v2] = some y2 ∧ DataW.trod enc P w base spare held n f3.type [v3] = some y3 ∧ DataW.trod enc P w base spare held n f4.type [v4] = some y4 := by
  obtain ⟨cs, ys, n, rfl, h1, h2, rfl, rfl, hf⟩ := open_fields hs hone hC hv h
  have h1' : cs.length = 5 := h1
  have h2' : ys.length = 5 := h2
  rcases cs with _ | ⟨v0, _ | ⟨v1, _ | ⟨v2, _ | ⟨v3, _ | ⟨v4, _ | ⟨_, _⟩⟩⟩⟩⟩⟩ <;> simp only [List.length_nil, List.length_cons] at h1' <;> try omega
  rcases ys with _ | ⟨y0, _ | ⟨y1, _ | ⟨y2, _ | ⟨y3, _ | ⟨y4, _ | ⟨_, _⟩⟩⟩⟩⟩⟩ <;> simp only [List.length_nil, List.length_cons] at h2' <;> try omega
  have g : ∀ (j : Nat) (f : Field) (c : Value) (y : DataW H × List MemPlace), (#[f0, f1, f2, f3, f4] : Array Field)[j]? = some f → [v0, v1, v2, v3, v4][j]? = some c → [y0, y1, y2, y3, y4][j]? = some y → DataW.trod enc P w base spare held n f.type [c] = some y := by
    intro j f c y a1 a2 a3
    obtain ⟨y', b1, b2⟩ := hf j f c a1 a2
    rw [a3] at b1
    rw [Option.some.inj b1]
    exact b2
  exact ⟨v0, v1, v2, v3, v4, y0, y1, y2, y3, y4, n, rfl, rfl, by simp, g 0 _ _ _ rfl rfl rfl, g 1 _ _ _ rfl rfl rfl, g 2 _ _ _ rfl rfl rfl, g 3 _ _ _ rfl rfl rfl, g 4 _ _ _ rfl rfl rfl⟩
end
end Go.Proofs.YtifnochpmlllgaaDoor
