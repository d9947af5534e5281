/-
  PROVED HERE: the contracts of undo's New and of Add when it is full. Conditions: as each theorem states.
-/
import Derived.Test.YtijcehimdhbceaaDoorUnG
namespace Go.Proofs.YtijcehimdhbceaaDoor.Un
open Go.RowKit
set_option maxRecDepth 100000 in
set_option maxHeartbeats 1000000 in
theorem add_no (w : World) (g b cap : Nat) (l : List St) (now : Nat) (x : Int) (hD : PT w g b cap l now) (hl : 200 ≤ l.length) : Calls Tryd.prog 15 #[.pointer (some ⟨g, 0, none⟩), .int .i64 x] w (UnP g b cap w (.iface 24 (.int .i64 12)) l now) := by
  have c0 := hD.c0
  have i1 : (200 : Int) ≤ (l.length : Int) := by omega
  have DH := Lib.hid hD
  clear hD
  go_enter Tryd.func15, Tryd.ntmps15
  go_wp2_with fail
  go_ret
  exact ⟨rfl, DH.out, Keeps.refl _ _⟩
theorem alloc_sz (w : World) (o : Obj) : (w.alloc o).heap.size = w.heap.size + 1 := Array.size_push _
theorem pt_made (w : World) (x : Int) : PT ((w.alloc (Obj.cells #[Value.int IntKind.i64 x, Value.int IntKind.i64 (-1), Value.int IntKind.i64 (-1)] 65)).alloc (Obj.cells #[Value.slice (some ⟨w.heap.size, 0, none⟩) 1 1, Value.int IntKind.i64 0] 68)) (w.heap.size + 1) w.heap.size 1 [⟨x, -1, -1⟩] 0 := by
  have hs : w.heap.size + 1 = (w.alloc (Obj.cells #[Value.int IntKind.i64 x, Value.int IntKind.i64 (-1), Value.int IntKind.i64 (-1)] 65)).heap.size := (alloc_sz _ _).symm
  have ho : OwnS (w.alloc (Obj.cells #[Value.int IntKind.i64 x, Value.int IntKind.i64 (-1), Value.int IntKind.i64 (-1)] 65)) (.slice (some ⟨w.heap.size, 0, none⟩) 1 1) [⟨x, -1, -1⟩] :=
    World.ownsRow_lit (base := 0) (e := 65) (size := 3) w #[.int .i64 x, .int .i64 (-1), .int .i64 (-1)] 1 (Nat.zero_le _) (by unfold maxLen; omega) rfl
  refine ⟨?_, ?_, fun j => ?_, World.ownsRow.alloc ho _, by omega⟩
  · rw [World.cell?_alloc_at _ _ _ _ hs]; rfl
  · rw [World.cell?_alloc_at _ _ _ _ hs]; rfl
  · rw [World.frozen?_alloc_at _ _ _ _ hs]
def NewP (x : Int) (w : World) (e : Ending) (w' : World) : Prop :=
  ∃ g b, e = .returned (.pointer (some ⟨g, 0, none⟩)) ∧ PT w' g b 1 [⟨x, -1, -1⟩] 0 ∧ w.heap.size ≤ g ∧ w.heap.size ≤ b ∧ Below w.heap.size w w'
set_option maxRecDepth 100000 in
set_option maxHeartbeats 1000000 in
theorem new_any (w : World) (x : Int) : Calls Tryd.prog 11 #[.int .i64 x] w (NewP x w) := by
  go_enter Tryd.func11, Tryd.ntmps11
  go_wp2_with fail
  go_ret
  exact ⟨_, _, rfl, pt_made w x, by omega, Nat.le_refl _, (Below.alloc (Below.refl _ w) (Nat.le_refl _) _).alloc (Nat.le_trans (Nat.le_succ _) (Nat.le_of_eq (alloc_sz _ _).symm)) _⟩
end Go.Proofs.YtijcehimdhbceaaDoor.Un
