/-
  PROVED HERE: that the law RealJoins returns true. Conditions: as each theorem states.
-/
import Derived.Test.YtebjccenlfhilaaDoorRows
import Derived.Test.YtebjccenlfhilaaDoorRealJ
import Derived.Test.YtebjccenlfhilaaDoorErrB
namespace Go.Proofs.YtebjccenlfhilaaDoor.Real
open Go.RowKit

set_option maxRecDepth 100000 in
theorem joins_main (r : Value) (n v code : Int) (x : Value) (W : World) (hg : Err.Home W) (hx : ∀ w, Err.ErrIs w x code (-1)) (N : Bool) (E F : Int) (hr : r = .agg #[.bool N, .int .i64 E, .int .u64 F])
    (c1 : ∀ W', Calls Tryd.prog 16 #[.agg #[.bool N, .int .i64 E, .int .u64 F], .int .i64 n] W' fun e w' => e = .returned (.tuple #[.int .u64 v, .int .i64 code]) ∧ Below W'.heap.size W' w')
    (c2 : ∀ W', Calls Tryd.prog 17 #[.agg #[.bool N, .int .i64 E, .int .u64 F], .int .i64 n] W' fun e w' => e = .returned (.tuple #[.int .u64 v, x]) ∧ Below W'.heap.size W' w') :
    Calls Tryd.prog 5 #[r, .int .i64 n] W fun e w' => e = .returned (.bool true) ∧ Below W.heap.size W w' := by
  subst hr
  have C1 := Lib.hid c1
  have C2 := Lib.hid c2
  have HX := Lib.hid hx
  have HG := Lib.hid hg
  clear c1 c2 hx hg
  go_enter Tryd.func5, Tryd.ntmps5
  go_wp2_with fail
  refine (C1.out _).mono ?_; rintro e w1 ⟨rfl, h1⟩
  have x0 : w1.cell? ⟨W.heap.size, 0, none⟩ = some (.bool N) := (h1.cell (p := ⟨W.heap.size, 0, none⟩) (by simp)).trans (by simp)
  have x1 : w1.cell? ⟨W.heap.size, 1, none⟩ = some (.int .i64 E) := (h1.cell (p := ⟨W.heap.size, 1, none⟩) (by simp)).trans (by simp)
  have x2 : w1.cell? ⟨W.heap.size, 2, none⟩ = some (.int .u64 F) := (h1.cell (p := ⟨W.heap.size, 2, none⟩) (by simp)).trans (by simp)
  have H1 := Lib.hid (((Below.refl _ _).alloc (Nat.le_refl _) _).trans (h1.mono (by simp)) : Below W.heap.size W w1)
  clear h1
  go_wp2_with fail
  refine (C2.out _).mono ?_; rintro e w2 ⟨rfl, h2⟩
  have H2 := Lib.hid (H1.out.trans (h2.mono H1.out.size))
  clear h2
  go_wp2_with fail
  refine (Err.bare_any x code (-1) code _ (HG.out.below H2.out) (HX.out _)).mono ?_; rintro e w5 ⟨rfl, h5⟩
  have H5 := Lib.hid (H2.out.trans (h5.mono H2.out.size))
  clear h5
  go_wp2_with fail
  go_ret
  exact ⟨ret_bool (by simp), H5.out⟩
theorem realJoins_walk (N : Bool) (E F n : Int) (wE : (Lit.int .i64 E).wf = true) (wF : (Lit.int .u64 F).wf = true) (W : World) (hg : Err.Home W) :
    Calls Tryd.prog 5 #[.agg #[.bool N, .int .i64 E, .int .u64 F], .int .i64 n] W fun e w' => e = .returned (.bool true) ∧ Below W.heap.size W w' := by
  obtain ⟨f0, f1⟩ := bounds_u64 wF
  obtain ⟨g0, g1⟩ := bounds_i64 wE
  have e2 : ∀ w', Err.ErrIs w' (.iface 28 (.int .i64 2)) 2 (-1) := fun _ => .inr (.inl ⟨rfl, rfl⟩)
  have e1 : ∀ w', Err.ErrIs w' (.iface 28 (.int .i64 1)) 1 (-1) := fun _ => .inr (.inl ⟨rfl, rfl⟩)
  have e0 : ∀ w', Err.ErrIs w' .nilIface 0 (-1) := fun _ => .inl ⟨rfl, rfl, rfl⟩
  by_cases h32 : n = 32
  · subst h32
    by_cases h : E < 0 ∨ 256 ≤ E ∨ 8388608 ≤ F
    · exact joins_main _ 32 0 2 _ W hg e2 N E F rfl (fun W' => docJoin_32_range N E F g0 g1 f0 f1 h W') (fun W' => join_32_range N E F g0 g1 f0 f1 h W')
    · exact joins_main _ 32 _ 0 _ W hg e0 N E F rfl (fun W' => docJoin_32 N E F (by omega) (by omega) (by omega) (by omega) W') (fun W' => join_32 N E F (by omega) (by omega) (by omega) (by omega) W')
  by_cases h64 : n = 64
  · subst h64
    by_cases h : E < 0 ∨ 2048 ≤ E ∨ 4503599627370496 ≤ F
    · exact joins_main _ 64 0 2 _ W hg e2 N E F rfl (fun W' => docJoin_64_range N E F g0 g1 f0 f1 h W') (fun W' => join_64_range N E F g0 g1 f0 f1 h W')
    · exact joins_main _ 64 _ 0 _ W hg e0 N E F rfl (fun W' => docJoin_64 N E F (by omega) (by omega) (by omega) (by omega) W') (fun W' => join_64 N E F (by omega) (by omega) (by omega) (by omega) W')
  · exact joins_main _ n 0 1 _ W hg e1 N E F rfl (fun W' => docJoin_no N E F n h32 h64 W') (fun W' => join_no N E F n h32 h64 W')
end Go.Proofs.YtebjccenlfhilaaDoor.Real
