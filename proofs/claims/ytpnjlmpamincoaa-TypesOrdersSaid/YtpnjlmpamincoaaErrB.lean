/-
  PROVED HERE: contracts of api.Tell, plain.Place and of the laws' own bare and placed, at each error that the program makes. Conditions: as each theorem states.
-/
import Derived.Test.YtpnjlmpamincoaaErr
import Derived.Test.YtpnjlmpamincoaaMem
namespace Go.Proofs.Ytpnjlmpamincoaa.Err
open Go.RowKit Go.Extern.Stop Go.Stop Go.Extern

/-! ### api.Tell, plain.Place, bare -/
theorem after_as (w : World) (o1 o2 o3 o4 : Obj) (t : Addr) (v old : Value) (ht0 : w.cell? t = some old) :
    (((((w.alloc o1).alloc o2).alloc o3).alloc o4).setCell t v).cell? t = some v ∧ Below t.block w (((((w.alloc o1).alloc o2).alloc o3).alloc o4).setCell t v) := by
  have htl := block_lt ht0
  refine ⟨?_, ?_⟩
  · rw [World.cell?_setCell_same _ _ _ (u := old)]
    rw [World.cell?_alloc_lt _ _ t (by simp; omega), World.cell?_alloc_lt _ _ t (by simp; omega), World.cell?_alloc_lt _ _ t (by simp; omega), World.cell?_alloc_lt _ _ t htl]; exact ht0
  · refine Below.setCell ?_ (Nat.le_refl _) _
    exact ((((Below.refl _ _).alloc (by omega) _).alloc (by simp; omega) _).alloc (by simp; omega) _).alloc (by simp; omega) _
end Go.Proofs.Ytpnjlmpamincoaa.Err
