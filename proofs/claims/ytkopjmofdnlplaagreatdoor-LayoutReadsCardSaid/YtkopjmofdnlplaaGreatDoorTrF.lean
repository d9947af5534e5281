/-
  PROVED HERE: the contract of the laws' sameItems. Conditions: as each theorem states.
-/
import Derived.Test.YtkopjmofdnlplaaGreatDoorTmL
import Derived.Test.YtkopjmofdnlplaaGreatDoorExpH
import Derived.Test.YtkopjmofdnlplaaGreatDoorTmN
import Derived.Deep.DeepCutAuto
import Derived.Deep.CutBlock
namespace Go.Proofs.YtkopjmofdnlplaaGreatDoor.Tm
open Go.RowKit Go.Proofs.YtkopjmofdnlplaaGreatDoor.Lex Go.Proofs.YtkopjmofdnlplaaGreatDoor.Dig
theorem CtAt.below {w w' : World} (hb : Below w.heap.size w w') {c : Option Ex} {v : Value} (h : CtAt w c v) : CtAt w' c v := by
  cases c with
  | none => exact h
  | some x => exact ExAt.below hb x v h
mutual
theorem ItAt.below {w w' : World} (hb : Below w.heap.size w w') : ∀ (x : It) (cv iv : Value), ItAt w x cv iv → ItAt w' x cv iv
  | .mk _ _ _ _ _ _ _ _ ct _ _ _ its, cv, iv, h => by
    unfold ItAt at h ⊢
    obtain ⟨h1, a, cap, e, hl, h2⟩ := h
    exact ⟨h1.below hb, a, cap, e, hl, RowAt.below hb its a 0 h2⟩
theorem RowAt.below {w w' : World} (hb : Below w.heap.size w w') : ∀ (l : List It) (a : Option Addr) (j : Nat), RowAt w l a j → RowAt w' l a j
  | [], _, _, _ => by unfold RowAt; trivial
  | x :: r, a, j, h => by
    unfold RowAt at h ⊢
    obtain ⟨⟨ad, cv, iv, e, hc, hi⟩, h2⟩ := h
    exact ⟨⟨ad, cv, iv, e, fun i v hv => keepCell hb (hc i v hv), ItAt.below hb x cv iv hi⟩, RowAt.below hb r a (j + 1) h2⟩
end
theorem ItsAt.below' {w w' : World} (hb : Below w.heap.size w w') {v : Value} {l : List It} (h : ItsAt w v l) : ItsAt w' v l := by
  obtain ⟨a, cap, e, hl, h2⟩ := h
  exact ⟨a, cap, e, hl, RowAt.below hb l a 0 h2⟩
def SmI (W : World) (e : Ending) (w' : World) : Prop := e = .returned (.bool true) ∧ Below W.heap.size W w'
theorem ct_ptr {w : World} {c : Option Ex} {v : Value} (h : CtAt w c v) : ∃ p, v = .pointer p := by
  cases c with
  | none => exact ⟨none, h⟩
  | some x =>
    cases x with
    | num k n => obtain ⟨g, e, _⟩ := h; exact ⟨_, e⟩
    | nam k s => obtain ⟨g, e, _⟩ := h; exact ⟨_, e⟩
    | bin k op l r => obtain ⟨g, a, b, e, _⟩ := h; exact ⟨_, e⟩
theorem its_slice {w : World} {l : List It} {v : Value} (h : ItsAt w v l) : ∃ a m c, v = .slice a m c := by
  obtain ⟨a, cap, e, _⟩ := h
  exact ⟨_, _, _, e⟩
theorem add_13 (ad : Addr) (m i : Nat) : ad.add (m + i) = if i = 0 then ad.add m else ⟨(ad.add m).block, (ad.add m).off + i, none⟩ := by
  cases i with
  | zero => rfl
  | succ i => rw [if_neg (by omega)]; exact add_next2 ad m i
theorem ci_in {l : List It} : ∀ x ∈ l, ci x ≤ cl l := by
  induction l with
  | nil => intro x h; cases h
  | cons y r ih =>
    intro x h
    rw [cl]
    rcases List.mem_cons.1 h with rfl | h
    · omega
    · have := ih x h; omega
theorem len_cl (l : List It) : l.length ≤ cl l := by
  induction l with
  | nil => exact Nat.zero_le _
  | cons y r ih =>
    rw [cl, List.length_cons]
    have : 1 ≤ ci y := by cases y; simp only [ci]; omega
    omega
theorem cl_items (x : It) : cl x.items + 1 = ci x := by cases x; simp only [It.items, ci]; omega
theorem ib_second (w : World) (o : Obj) (vs : List Value) : IB ((w.alloc o).alloc (.cells vs.toArray 78)) (w.heap.size + 1) vs := by
  have h := heap_alloc_new (w.alloc o) (.cells vs.toArray 78)
  rw [show (w.alloc o).heap.size = w.heap.size + 1 by simp] at h
  exact h
theorem below_two (w : World) (o o2 : Obj) : Below w.heap.size w ((w.alloc o).alloc o2) := ((Below.refl _ _).alloc (Nat.le_refl _) o).alloc (by simp) o2
section
variable {n : Nat}
end
end Go.Proofs.YtkopjmofdnlplaaGreatDoor.Tm
