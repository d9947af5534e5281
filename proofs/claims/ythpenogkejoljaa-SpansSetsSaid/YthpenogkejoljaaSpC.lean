/-
  PROVED HERE: what the program's spans.Of keeps of its spans, in plain Lean, and what its sorting does. Conditions: as each theorem states.
-/
import Derived.Test.YthpenogkejoljaaSpB
import Derived.Test.YthpenogkejoljaaSps
namespace Go.Proofs.Ythpenogkejoljaa.Sp
open Go.RowKit
/-- Those that are of a place at least, from 0 on. -/
def flt (l : List Spn) : List Spn := (l.map fun x => (max x.1 0, x.2)).filter fun x => decide (x.1 < x.2)
theorem flt_mem {l : List Spn} {y : Spn} : y ∈ flt l ↔ ∃ x ∈ l, y = (max x.1 0, x.2) ∧ max x.1 0 < x.2 := by
  unfold flt
  rw [List.mem_filter, List.mem_map]
  constructor
  · rintro ⟨⟨x, hx, rfl⟩, h⟩
    exact ⟨x, hx, rfl, by simpa using h⟩
  · rintro ⟨x, hx, rfl, h⟩
    exact ⟨⟨x, hx, rfl⟩, by simpa using h⟩
theorem flt_good {l : List Spn} {y : Spn} (h : y ∈ flt l) : 0 ≤ y.1 ∧ y.1 < y.2 := by
  obtain ⟨x, _, rfl, h2⟩ := flt_mem.1 h
  exact ⟨by simp only; omega, h2⟩
theorem flt_has (l : List Spn) (a : Int) : Hs (flt l) a ↔ 0 ≤ a ∧ Hs l a := by
  constructor
  · rintro ⟨y, hy, h1, h2⟩
    obtain ⟨x, hx, rfl, h⟩ := flt_mem.1 hy
    simp only at h1 h2
    exact ⟨by omega, x, hx, by omega, h2⟩
  · rintro ⟨h0, x, hx, h1, h2⟩
    exact ⟨_, flt_mem.2 ⟨x, hx, rfl, by omega⟩, by simp only; omega, h2⟩
theorem flt_snoc_yes {l : List Spn} {x : Spn} (h : max x.1 0 < x.2) : flt (l ++ [x]) = flt l ++ [(max x.1 0, x.2)] := by
  unfold flt
  rw [List.map_append, List.filter_append]
  simp [h]
theorem flt_snoc_no {l : List Spn} {x : Spn} (h : ¬ max x.1 0 < x.2) : flt (l ++ [x]) = flt l := by
  unfold flt
  rw [List.map_append, List.filter_append]
  simp [h]
theorem flt_len (l : List Spn) : (flt l).length ≤ l.length := by
  unfold flt
  exact Nat.le_trans (List.length_filter_le _ _) (by simp)
theorem flt_fit {l : List Spn} (h : ∀ x ∈ l, I64 x.1 ∧ I64 x.2) : ∀ y ∈ flt l, I64 y.1 ∧ I64 y.2 := fun y hy => by
  obtain ⟨x, hx, rfl, _⟩ := flt_mem.1 hy
  obtain ⟨h1, h2⟩ := h x hx
  unfold I64 at *
  exact ⟨by simp only; omega, h2⟩
/-- A list that is r, and the same places as l from 0 on. -/
def Same (l r : List Spn) : Prop := Rt r ∧ (∀ a, Hs r a ↔ 0 ≤ a ∧ Hs l a)
theorem Same.one {l r s : List Spn} (h1 : Same l r) (h2 : Same l s) : r = s := right_unique r s h1.1 h2.1 fun a => (h1.2 a).trans (h2.2 a).symm
/-- Merging the sorted ones to the end. -/
theorem merged {l s o : List Spn} (hp : s.Perm (flt l)) (h : Mg s s.length o) : Same l o :=
  ⟨h.1, fun a => by
    rw [h.2.1 a, List.take_length, ← flt_has l a]
    exact ⟨fun ⟨x, hx, h⟩ => ⟨x, hp.mem_iff.1 hx, h⟩, fun ⟨x, hx, h⟩ => ⟨x, hp.mem_iff.2 hx, h⟩⟩⟩
end Go.Proofs.Ythpenogkejoljaa.Sp
