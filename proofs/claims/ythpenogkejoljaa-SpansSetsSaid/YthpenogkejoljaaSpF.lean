/-
  PROVED HERE: a map from int to bool as a set of numbers; lists of lists of spans. Conditions: as each theorem states.
-/
import Derived.Test.YthpenogkejoljaaSpB
import Derived.Test.YthpenogkejoljaaSps
import Derived.Maps.RangeWalk
namespace Go.Proofs.Ythpenogkejoljaa.Sp
open Go.RowKit
theorem int_key : Maps.Keyed Try.prog 3 := Go.Maps.int_keyed Try.underlying3
noncomputable def RB : Value → Option (DataW Unit × List MemPlace) := plainElem Try.prog 4
/-- The map at block b holds just the numbers of S. -/
def MI (w : World) (b n : Nat) (S : Int → Prop) : Prop := ∃ D : DataW Unit, w.ownsMap Try.prog 3 RB b n D ∧ Maps.IsMap D ∧ ∀ x, Maps.has D (.int .i64 x) = true ↔ S x
theorem key_int {x : Int} (h : I64 x) : keyOf Try.prog 3 (.int .i64 x) = some (.int .i64 x) := by
  unfold I64 at h
  simp [keyOf, Try.underlying3, mapKey, Lit.wf, IntKind.min, IntKind.max, IntKind.bits, IntKind.signed]
  omega
theorem mi_made (w : World) : MI (w.alloc (.map #[] 0)) w.heap.size 0 fun _ => False :=
  ⟨_, World.ownsMap_made w Try.prog 3 RB, Maps.isMap_empty, fun x => by simp [Maps.has]⟩
theorem MI.kept {w w' : World} {b n : Nat} {S : Int → Prop} {row : Option Nat} (h : MI w b n S) (hg : w.grownBy w' row) (hne : some b ≠ row) : MI w' b n S := by
  obtain ⟨D, h1, h2, h3⟩ := h
  exact ⟨D, h1.kept hg hne, h2, h3⟩
theorem MI.below {w w' : World} {b n : Nat} {S : Int → Prop} (h : MI w b n S) (hb : Below w.heap.size w w') : MI w' b n S :=
  h.kept (row := none) ⟨hb.os, hb.tape, hb.output, hb.size, fun k hk _ => hb.block k hk⟩ (by simp)
theorem MI.lt {w : World} {b n : Nat} {S : Int → Prop} (h : MI w b n S) : b < w.heap.size := by
  obtain ⟨D, h1, _⟩ := h
  exact h1.lt
theorem MI.put {w : World} {b n : Nat} {S : Int → Prop} (h : MI w b n S) {x : Int} (hx : I64 x) (hn : n < 1000000) : ∃ w', (Instr.mapUpdate 46 (.map (some b)) (.int .i64 x) (.bool true)).run Try.prog w = .ok () w' ∧ MI w' b (n + 1) (fun y => y = x ∨ S y) ∧ w.grownBy w' (some b) := by
  obtain ⟨D, h1, h2, h3⟩ := h
  obtain ⟨w', e, h4, h5⟩ := h1.update int_key Try.underlying46 (by unfold maxLen; omega) (key_int hx) (plainElem_bool (H := Unit) Try.underlying4 true)
  refine ⟨w', e, ⟨_, h4, h2.put _ _, fun y => ?_⟩, h5⟩
  by_cases c : y = x
  · subst c
    rw [Maps.has_put_same h2 (int_key.key (key_int hx))]
    simp
  · rw [Maps.has_put_other (by simpa using c), h3 y]
    simp [c]
/-- The slice v shows the lists ls of spans. -/
def Lls (w : World) (v : Value) (ls : List (List Spn)) : Prop :=
  ∃ a cap, v = .slice a ls.length cap ∧ ∀ j (h : j < ls.length), ∃ ad u, a = some ad ∧ w.cell? (ad.add j) = some u ∧ Sps w u ls[j]
theorem Lls.below {w w' : World} {v : Value} {ls : List (List Spn)} (h : Lls w v ls) (hb : Below w.heap.size w w') : Lls w' v ls := by
  obtain ⟨a, cap, e, hc⟩ := h
  refine ⟨a, cap, e, fun j hj => ?_⟩
  obtain ⟨ad, u, h1, h2, h3⟩ := hc j hj
  exact ⟨ad, u, h1, keepCell hb h2, h3.below hb⟩
/-- The ends of the spans pr, and 0. -/
def EndOf (pr : List Spn) (x : Int) : Prop := x = 0 ∨ ∃ y ∈ pr, x = max y.1 0 ∨ x = max y.2 0
theorem endOf_snoc (pr : List Spn) (y : Spn) (x : Int) : EndOf (pr ++ [y]) x ↔ x = max y.2 0 ∨ x = max y.1 0 ∨ EndOf pr x := by
  unfold EndOf
  constructor
  · rintro (h | ⟨z, hz, h⟩)
    · exact .inr (.inr (.inl h))
    · rcases List.mem_append.1 hz with hz | hz
      · exact .inr (.inr (.inr ⟨z, hz, h⟩))
      · obtain rfl := List.mem_singleton.1 hz
        exact h.elim (fun h => .inr (.inl h)) .inl
  · rintro (h | h | h | ⟨z, hz, h⟩)
    · exact .inr ⟨y, List.mem_append_right _ (List.mem_singleton.2 rfl), .inr h⟩
    · exact .inr ⟨y, List.mem_append_right _ (List.mem_singleton.2 rfl), .inl h⟩
    · exact .inl h
    · exact .inr ⟨z, List.mem_append_left _ hz, h⟩
theorem MI.congr {w : World} {b n : Nat} {S T : Int → Prop} (h : MI w b n S) (e : ∀ x, S x ↔ T x) : MI w b n T := by
  obtain ⟨D, h1, h2, h3⟩ := h
  exact ⟨D, h1, h2, fun x => (h3 x).trans (e x)⟩
end Go.Proofs.Ythpenogkejoljaa.Sp
