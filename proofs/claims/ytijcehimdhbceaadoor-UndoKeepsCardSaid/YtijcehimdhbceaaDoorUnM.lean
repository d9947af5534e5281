/-
  PROVED HERE: the contract of the document's NewTree. Conditions: as each theorem states.
-/
import Derived.Test.YtijcehimdhbceaaDoorUnL
namespace Go.Proofs.YtijcehimdhbceaaDoor.Un
open Go.RowKit
theorem dt_made (w : World) : DT (((w.alloc (Obj.cells #[Value.int IntKind.i64 (-1)] 3)).alloc (Obj.cells #[Value.int IntKind.i64 0] 3)).alloc (Obj.cells #[Value.slice (some ⟨w.heap.size, 0, none⟩) 1 1, Value.int IntKind.i64 0, Value.slice (some ⟨w.heap.size + 1, 0, none⟩) 1 1, Value.int IntKind.i64 0] 51)) (w.heap.size + 1 + 1) w.heap.size 1 (w.heap.size + 1) 1 [-1] [0] 0 0 := by
  have s1 := alloc_sz w (Obj.cells #[Value.int IntKind.i64 (-1)] 3)
  have s2 := alloc_sz (w.alloc (Obj.cells #[Value.int IntKind.i64 (-1)] 3)) (Obj.cells #[Value.int IntKind.i64 0] 3)
  have o1 := own_one w 0 (-1) (Nat.zero_le _)
  have o2 := own_one (w.alloc (Obj.cells #[Value.int IntKind.i64 (-1)] 3)) 0 0 (Nat.zero_le _)
  rw [s1] at o2 s2
  have hs := s2.symm
  refine ⟨?_, ?_, ?_, ?_, fun j => ?_, (o1.alloc _).alloc _, o2.alloc _, by omega, by omega, by omega⟩
  · rw [World.cell?_alloc_at _ _ _ _ hs]; rfl
  · rw [World.cell?_alloc_at _ _ _ _ hs]; rfl
  · rw [World.cell?_alloc_at _ _ _ _ hs]; rfl
  · rw [World.cell?_alloc_at _ _ _ _ hs]; rfl
  · rw [World.frozen?_alloc_at _ _ _ _ hs]
def NewDP (w : World) (e : Ending) (w' : World) : Prop :=
  ∃ g b d, e = .returned (.pointer (some ⟨g, 0, none⟩)) ∧ DT w' g b 1 d 1 [-1] [0] 0 0 ∧ w.heap.size ≤ g ∧ w.heap.size ≤ b ∧ w.heap.size ≤ d ∧ Below w.heap.size w w'
set_option maxRecDepth 100000 in
set_option maxHeartbeats 1000000 in
theorem newTree_any (w : World) : Calls Tryd.prog 12 #[] w (NewDP w) := by
  go_enter Tryd.func12, Tryd.ntmps12
  go_wp2_with fail
  go_ret
  have s1 := alloc_sz w (Obj.cells #[Value.int IntKind.i64 (-1)] 3)
  have s2 := alloc_sz (w.alloc (Obj.cells #[Value.int IntKind.i64 (-1)] 3)) (Obj.cells #[Value.int IntKind.i64 0] 3)
  exact ⟨_, _, _, rfl, dt_made w, by omega, Nat.le_refl _, by omega, ((Below.alloc (Below.refl _ w) (Nat.le_refl _) _).alloc (by omega) _).alloc (by omega) _⟩
end Go.Proofs.YtijcehimdhbceaaDoor.Un
