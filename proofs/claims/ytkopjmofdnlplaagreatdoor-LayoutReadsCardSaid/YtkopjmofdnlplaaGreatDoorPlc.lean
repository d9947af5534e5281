/-
  PROVED HERE: the contracts of the laws' own placed and of the document's Good. Conditions: as each theorem states.
-/
import Derived.Test.YtkopjmofdnlplaaGreatDoorOwn
import Derived.Test.YtkopjmofdnlplaaGreatDoorErrB
namespace Go.Proofs.YtkopjmofdnlplaaGreatDoor.Chr
open Go.RowKit

/-- The laws' own placed. -/
theorem placed_any (v : Value) (n p x y : Int) (w : World) (hg : Err.Home w) (h : Err.ErrIs w v n p) :
    Calls Tryz.prog 10 #[v, .agg #[.int .i64 x, .int .i64 y]] w fun e w' => e = .returned (.bool (n == x && p == y)) ∧ Below w.heap.size w w' := by
  have hb0 : Below w.heap.size w (w.alloc (.cells #[.int .i64 x, .int .i64 y] 30)) := (Below.refl _ _).alloc (Nat.le_refl _) _
  have C := Lib.hid (Err.place_any v n p _ (hg.below hb0) (h.below hb0))
  have H0 := Lib.hid hb0
  clear hg h hb0
  by_cases hx : n = x
  · have t1 : (n == x) = true := by rw [beq_iff_eq]; exact hx
    have t1H := Lib.hid t1
    clear hx
    go_enter Tryz.func10, Tryz.ntmps10
    go_wp2_with fail
    refine C.out.mono ?_; rintro e w1 ⟨rfl, hb⟩
    have c0 : w1.cell? ⟨w.heap.size, 0, none⟩ = some (.int .i64 x) := (hb.cell (p := ⟨w.heap.size, 0, none⟩) (by simp)).trans (by simp)
    have c1 : w1.cell? ⟨w.heap.size, 1, none⟩ = some (.int .i64 y) := (hb.cell (p := ⟨w.heap.size, 1, none⟩) (by simp)).trans (by simp)
    have hbH := Lib.hid (H0.out.trans (hb.mono (by simp)))
    clear hb
    go_wp2_with fail
    go_ret
    exact ⟨ret_bool (by rw [t1H.out]; rfl), hbH.out⟩
  · have t1 : (n == x) = false := by rw [beq_eq_false_iff_ne]; exact hx
    have t1H := Lib.hid t1
    clear hx
    go_enter Tryz.func10, Tryz.ntmps10
    go_wp2_with fail
    refine C.out.mono ?_; rintro e w1 ⟨rfl, hb⟩
    have c0 : w1.cell? ⟨w.heap.size, 0, none⟩ = some (.int .i64 x) := (hb.cell (p := ⟨w.heap.size, 0, none⟩) (by simp)).trans (by simp)
    have c1 : w1.cell? ⟨w.heap.size, 1, none⟩ = some (.int .i64 y) := (hb.cell (p := ⟨w.heap.size, 1, none⟩) (by simp)).trans (by simp)
    have hbH := Lib.hid (H0.out.trans (hb.mono (by simp)))
    clear hb
    go_wp2_with fail
    go_ret
    exact ⟨ret_bool (by rw [t1H.out]; rfl), hbH.out⟩
theorem good_any (W : World) : Calls Tryz.prog 34 #[] W fun e w' => e = .returned (.agg #[.int .i64 0, .int .i64 (-1)]) ∧ Below W.heap.size W w' := by
  go_enter Tryz.func34, Tryz.ntmps34
  go_wp2_with fail
  refine bodyPost_ret (v := .agg #[.int .i64 0, .int .i64 (-1)]) (by simp [results, Tryz.results34, go_sem]) rfl ⟨rfl, ?_⟩
  exact (Below.refl _ _).alloc (Nat.le_refl _) _

end Go.Proofs.YtkopjmofdnlplaaGreatDoor.Chr
