/-
  PROVED HERE: the last edit of a list of one's own, read and stored in place; an edit joined to it. Conditions: as each theorem states.
-/
import Derived.Test.YtjicnffafhbmbaaDoorMyJ
import Derived.Laws.OwnMore
namespace Go.Proofs.YtjicnffafhbmbaaDoor.My
open Go.RowKit
section
variable {w : World} {B g cap : Nat} {d : List Ed} {q : Ed}
theorem add_from0 (g k : Nat) : (⟨g, 0, none⟩ : Addr).add k = ⟨g, k, none⟩ := by
  unfold Addr.add
  by_cases h : k = 0 <;> simp [h]
theorem edCells_snoc (d : List Ed) (q : Ed) : edCells (d ++ [q]) = edCells d ++ [.int .i64 q.what, .int .i64 q.n, .string q.text] := by
  simp [edCells, Ed.cells]
theorem last_cells (h : OwnE w B (.slice (some ⟨g, 0, none⟩) (d.length + 1) cap) (d ++ [q])) :
    (w.cell? ⟨g, d.length * 3, none⟩ = some (.int .i64 q.what) ∧ w.cell? ⟨g, d.length * 3 + 1, none⟩ = some (.int .i64 q.n) ∧ w.cell? ⟨g, d.length * 3 + 2, none⟩ = some (.string q.text)) ∧ (∀ j, w.frozen? ⟨g, j, none⟩ = false) := by
  have hl : d.length < (d ++ [q]).length := by simp
  have hg : (d ++ [q])[d.length] = q := by simp
  have h' : w.ownsRow B 58 3 (.slice (some ⟨g, 0, none⟩) (d.length + 1) cap) (d.length + 1) (edCells (d ++ [q])) := by
    have := h; unfold OwnE at this; simpa using this
  refine ⟨⟨?_, ?_, ?_⟩, fun j => World.ownsRow.frozenAt h' j⟩
  · rw [← add_from0]
    exact World.ownsRow.cells h' (g := g) rfl (d.length * 3) _ (by have := edCells_get (d ++ [q]) d.length 0 hl (by decide); rw [hg] at this; simpa [Ed.cells] using this)
  · rw [← add_from0]
    exact World.ownsRow.cells h' (g := g) rfl (d.length * 3 + 1) _ (by rw [edCells_get _ d.length 1 hl (by decide), hg]; rfl)
  · rw [← add_from0]
    exact World.ownsRow.cells h' (g := g) rfl (d.length * 3 + 2) _ (by rw [edCells_get _ d.length 2 hl (by decide), hg]; rfl)
theorem last_num (h : OwnE w B (.slice (some ⟨g, 0, none⟩) (d.length + 1) cap) (d ++ [q])) (m : Int) : OwnE (w.setCell ⟨g, d.length * 3 + 1, none⟩ (.int .i64 m)) B (.slice (some ⟨g, 0, none⟩) (d.length + 1) cap) (d ++ [⟨q.what, m, q.text⟩]) := by
  have h' : w.ownsRow B 58 3 (.slice (some ⟨g, 0, none⟩) (d.length + 1) cap) (d.length + 1) (edCells (d ++ [q])) := by
    have := h; unfold OwnE at this; simpa using this
  have hs := (World.ownsRow.stored h' (d.length * 3 + 1) (.int .i64 m)).1
  rw [edCells_snoc, List.set_append_right _ _ (by rw [edCells_len]; omega), edCells_len, show d.length * 3 + 1 - d.length * 3 = 1 by omega] at hs
  unfold OwnE
  rw [edCells_snoc, show (d ++ [Ed.mk q.what m q.text]).length = d.length + 1 by simp]
  exact hs
theorem last_text (h : OwnE w B (.slice (some ⟨g, 0, none⟩) (d.length + 1) cap) (d ++ [q])) (t : ByteArray) : OwnE (w.setCell ⟨g, d.length * 3 + 2, none⟩ (.string t)) B (.slice (some ⟨g, 0, none⟩) (d.length + 1) cap) (d ++ [⟨q.what, q.n, t⟩]) := by
  have h' : w.ownsRow B 58 3 (.slice (some ⟨g, 0, none⟩) (d.length + 1) cap) (d.length + 1) (edCells (d ++ [q])) := by
    have := h; unfold OwnE at this; simpa using this
  have hs := (World.ownsRow.stored h' (d.length * 3 + 2) (.string t)).1
  rw [edCells_snoc, List.set_append_right _ _ (by rw [edCells_len]; omega), edCells_len, show d.length * 3 + 2 - d.length * 3 = 2 by omega] at hs
  unfold OwnE
  rw [edCells_snoc, show (d ++ [Ed.mk q.what q.n t]).length = d.length + 1 by simp]
  exact hs
end
theorem addE_nil (e : Ed) : addE [] e = [e] := rfl
theorem addE_join {d : List Ed} {q e : Ed} (h : q.what = e.what) : addE (d ++ [q]) e = d ++ [⟨q.what, q.n + e.n, q.text ++ e.text⟩] := by
  simp [addE, h]
theorem addE_new {d : List Ed} {q e : Ed} (h : q.what ≠ e.what) : addE (d ++ [q]) e = (d ++ [q]) ++ [e] := by
  simp [addE, h]
end Go.Proofs.YtjicnffafhbmbaaDoor.My
