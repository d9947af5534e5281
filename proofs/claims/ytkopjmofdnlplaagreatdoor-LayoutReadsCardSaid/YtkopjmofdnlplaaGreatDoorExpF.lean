/-
  PROVED HERE: the contracts of lex.Read, lex.Catch (both ways) and expr.Parse. Conditions: as each theorem states.
-/
import Derived.Test.YtkopjmofdnlplaaGreatDoorExpE
import Derived.Test.YtkopjmofdnlplaaGreatDoorTmP
import Derived.Defers
import Derived.Recover
namespace Go.Proofs.YtkopjmofdnlplaaGreatDoor.Tm
open Go.RowKit Go.Proofs.YtkopjmofdnlplaaGreatDoor.Lex Go.Proofs.YtkopjmofdnlplaaGreatDoor.Dig
theorem below_set_at {B k j : Nat} {W w : World} {v : Value} (h : Below B W w) (hk : B ≤ k) : Below B W (w.setCell ⟨k, j, none⟩ v) :=
  ⟨h.os, h.tape, h.output, by rw [show (w.setCell ⟨k, j, none⟩ v).heap.size = w.heap.size by simp [World.setCell]]; exact h.size, fun i hi => (Below.heap_setCell _ _ _ _ (show i ≠ k by omega)).trans (h.block i hi)⟩
/-- What a text's expression is, and what is wrong with it. -/
def prS (s : ByteArray) : Pr := exprF s.size ((rl s).length + 1) 1 0 ⟨0, -1, rl s⟩
def pfS (s : ByteArray) : Int × Int := if rc s ≠ 0 then (rc s, rp s) else if (prS s).2.c ≠ 0 then ((prS s).2.c, (prS s).2.a) else if (prS s).2.l ≠ [] then (3, ((pos s.size (prS s).2 : Nat) : Int)) else (0, -1)
theorem pfS_lex {s : ByteArray} (h : rc s ≠ 0) : pfS s = (rc s, rp s) := if_pos h
theorem pfS_bad {s : ByteArray} (h : rc s = 0) (h2 : (prS s).2.c ≠ 0) : pfS s = ((prS s).2.c, (prS s).2.a) := by unfold pfS; rw [if_neg (by simp [h]), if_pos h2]
theorem pfS_rest {s : ByteArray} (h : rc s = 0) (h2 : (prS s).2.c = 0) (h3 : (prS s).2.l ≠ []) : pfS s = (3, ((pos s.size (prS s).2 : Nat) : Int)) := by unfold pfS; rw [if_neg (by simp [h]), if_neg (by simp [h2]), if_pos h3]
theorem pfS_ok {s : ByteArray} (h : rc s = 0) (h2 : (prS s).2.c = 0) (h3 : (prS s).2.l = []) : pfS s = (0, -1) := by unfold pfS; rw [if_neg (by simp [h]), if_neg (by simp [h2]), if_neg (by simp [h3])]
def LrP (s : ByteArray) (W : World) (e : Ending) (w' : World) : Prop :=
  (rc s = 0 ∧ ∃ G lv, e = .returned (.tuple #[.pointer (some ⟨G, 0, none⟩), .nilIface]) ∧ RS G s.size lv ⟨0, -1, rl s⟩ w' ∧ W.heap.size ≤ G ∧ Below W.heap.size W w') ∨
  (rc s ≠ 0 ∧ ∃ T v, e = .returned (.tuple #[.pointer none, .iface T v]) ∧ Err.ErrIs w' (.iface T v) (rc s) (rp s) ∧ Below W.heap.size W w')
theorem err_iface {w : World} {x : Value} {n p : Int} (h : Err.ErrIs w x n p) (hn : n ≠ 0) : ∃ T v, x = .iface T v := by
  rcases h with ⟨_, h, _⟩ | ⟨rfl, _⟩ | ⟨b, o, rfl, _⟩
  · exact absurd h hn
  · exact ⟨_, _, rfl⟩
  · exact ⟨_, _, rfl⟩
def EpP (s : ByteArray) (W : World) (e : Ending) (w' : World) : Prop := ∃ v ev, e = .returned (.tuple #[v, ev]) ∧ Err.ErrIs w' ev (pfS s).1 (pfS s).2 ∧ Below W.heap.size W w' ∧ ((pfS s).1 ≠ 0 → v = .pointer none) ∧ ((pfS s).1 = 0 → ∃ x, (prS s).1 = some x ∧ ExAt w' x v)
theorem txt_full {σ : Ey} (hc : σ.c = 0) (hA : AllT σ.l) (hl : σ.l ≠ []) : ((txt σ).toList == []) = false := by
  cases h : σ.l with
  | nil => exact absurd h hl
  | cons t r =>
    rw [txt_cons hc h]
    have t2 := str_full t.text (hA t (by rw [h]; simp)).1
    rw [beq_eq_false_iff_ne]; intro e; rw [e] at t2; cases t2
theorem cell_box {w : World} {c : Nat} {v : Value} {t : TypeId} (h : w.heap[c]? = some (.cells #[v] t)) : w.cell? ⟨c, 0, none⟩ = some v ∧ w.frozen? ⟨c, 0, none⟩ = false := by
  refine ⟨by unfold World.cell?; rw [h]; rfl, by unfold World.frozen?; rw [h]; rfl⟩
theorem set_same {w : World} {c : Nat} {v : Value} {t : TypeId} (h : w.heap[c]? = some (.cells #[v] t)) : Below w.heap.size w (w.setCell ⟨c, 0, none⟩ v) := by
  refine ⟨rfl, rfl, rfl, by simp [World.setCell], fun k _ => ?_⟩
  by_cases e : k = c
  · subst e
    simp [World.setCell, Array.getElem?_modify, h]
  · exact Below.heap_setCell _ _ _ _ e
theorem err_set {w : World} {c : Nat} {x v : Value} {n p : Int} {t : TypeId} (h : Err.ErrIs w v n p) (hc : w.heap[c]? = some (.cells #[.nilIface] t)) : Err.ErrIs (w.setCell ⟨c, 0, none⟩ x) v n p := by
  rcases h with h | h | ⟨b, o, e, h1, h2⟩
  · exact .inl h
  · exact .inr (.inl h)
  · have hne : b ≠ c := by
      rintro rfl
      unfold World.cell? at h1
      rw [hc] at h1
      rcases o with _ | o <;> simp at h1
    exact .inr (.inr ⟨b, o, e, (World.cell?_of_block (a := ⟨b, o, none⟩) (Below.heap_setCell _ _ _ _ hne)).trans h1, (World.cell?_of_block (a := ⟨b, o + 1, none⟩) (Below.heap_setCell _ _ _ _ hne)).trans h2⟩)
theorem set_heap {w : World} {c : Nat} {v x : Value} {t : TypeId} (h : w.heap[c]? = some (.cells #[v] t)) : (w.setCell ⟨c, 0, none⟩ x).heap[c]? = some (.cells #[x] t) := by
  simp [World.setCell, Array.getElem?_modify, h]
end Go.Proofs.YtkopjmofdnlplaaGreatDoor.Tm
