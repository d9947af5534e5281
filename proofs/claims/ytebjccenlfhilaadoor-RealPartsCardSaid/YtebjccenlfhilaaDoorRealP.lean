/-
  PROVED HERE: that the law RealParts returns true. Conditions: as each theorem states.
-/
import Derived.Test.YtebjccenlfhilaaDoorRows
import Derived.Test.YtebjccenlfhilaaDoorRealC
import Derived.Test.YtebjccenlfhilaaDoorErrB
namespace Go.Proofs.YtebjccenlfhilaaDoor.Real
open Go.RowKit

theorem keepc {w w' : World} {a : Addr} {v : Value} (h : w.cell? a = some v) (hb : Below w.heap.size w w') : w'.cell? a = some v := (hb.cell (p := a) (block_lt_of_cell h)).trans h

set_option maxRecDepth 100000 in
set_option maxHeartbeats 2000000 in
theorem parts_main (b n : Int) (N : Bool) (E F c code : Int) (x y : Value) (W : World) (hg : Err.Home W)
    (hx : ∀ w, Err.ErrIs w x code (-1)) (hy : ∀ w, Err.ErrIs w y code (-1))
    (c1 : ∀ W', Calls Tryd.prog 20 #[.int .u64 b, .int .i64 n] W' fun e w' => e = .returned (.tuple #[.agg #[.bool N, .int .i64 E, .int .u64 F], .int .i64 code]) ∧ Below W'.heap.size W' w')
    (c2 : ∀ W', Calls Tryd.prog 21 #[.int .u64 b, .int .i64 n] W' fun e w' => e = .returned (.tuple #[.agg #[.bool N, .int .i64 E, .int .u64 F], x]) ∧ Below W'.heap.size W' w')
    (c3 : ∀ W', Calls Tryd.prog 22 #[.int .u64 b, .int .i64 n] W' fun e w' => e = .returned (.tuple #[.int .i64 c, .int .i64 code]) ∧ Below W'.heap.size W' w')
    (c4 : ∀ W', Calls Tryd.prog 23 #[.int .u64 b, .int .i64 n] W' fun e w' => e = .returned (.tuple #[.int .i64 c, y]) ∧ Below W'.heap.size W' w') :
    Calls Tryd.prog 7 #[.int .u64 b, .int .i64 n] W fun e w' => e = .returned (.bool true) ∧ Below W.heap.size W w' := by
  have C1 := Lib.hid c1
  have C2 := Lib.hid c2
  have C3 := Lib.hid c3
  have C4 := Lib.hid c4
  have HX := Lib.hid hx
  have HY := Lib.hid hy
  have HG := Lib.hid hg
  clear c1 c2 c3 c4 hx hy hg
  go_enter Tryd.func7, Tryd.ntmps7
  go_wp2_with fail
  refine (C1.out _).mono ?_; rintro e w1 ⟨rfl, h1⟩
  have H1 := Lib.hid h1
  clear h1
  go_wp2_with fail
  refine (C2.out _).mono ?_; rintro e w2 ⟨rfl, h2⟩
  have x0 : w2.cell? ⟨w1.heap.size, 0, none⟩ = some (.bool N) := keepc (by simp) h2
  have x1 : w2.cell? ⟨w1.heap.size, 1, none⟩ = some (.int .i64 E) := keepc (by simp) h2
  have x2 : w2.cell? ⟨w1.heap.size, 2, none⟩ = some (.int .u64 F) := keepc (by simp) h2
  have hlt : w1.heap.size < w2.heap.size := by have := h2.size; simp at this; omega
  have H2 := Lib.hid (H1.out.trans (((Below.refl _ _).alloc (Nat.le_refl _) _).trans (h2.mono (by simp)) |>.mono H1.out.size))
  have X := Lib.hid (And.intro x0 (And.intro x1 x2))
  clear h2 x0 x1 x2
  go_wp2_with fail
  refine (C3.out _).mono ?_; rintro e w3 ⟨rfl, h3⟩
  have y0 : w3.cell? ⟨w2.heap.size, 0, none⟩ = some (.bool N) := keepc (by simp) h3
  have y1 : w3.cell? ⟨w2.heap.size, 1, none⟩ = some (.int .i64 E) := keepc (by simp) h3
  have y2 : w3.cell? ⟨w2.heap.size, 2, none⟩ = some (.int .u64 F) := keepc (by simp) h3
  have x0 : w3.cell? ⟨w1.heap.size, 0, none⟩ = some (.bool N) := keepc (by rw [World.cell?_alloc_lt _ _ _ hlt]; exact X.out.1) h3
  have x1 : w3.cell? ⟨w1.heap.size, 1, none⟩ = some (.int .i64 E) := keepc (by rw [World.cell?_alloc_lt _ _ _ hlt]; exact X.out.2.1) h3
  have x2 : w3.cell? ⟨w1.heap.size, 2, none⟩ = some (.int .u64 F) := keepc (by rw [World.cell?_alloc_lt _ _ _ hlt]; exact X.out.2.2) h3
  have XY := Lib.hid (And.intro x0 (And.intro x1 (And.intro x2 (And.intro y0 (And.intro y1 y2)))))
  have H3 := Lib.hid (H2.out.trans (((Below.refl _ _).alloc (Nat.le_refl _) _).trans (h3.mono (by simp)) |>.mono H2.out.size))
  clear h3 x0 x1 x2 y0 y1 y2 X hlt
  go_wp2_with fail
  refine (C4.out _).mono ?_; rintro e w4 ⟨rfl, h4⟩
  have h4' := Lib.hid h4
  have H4 := Lib.hid (H3.out.trans (h4.mono H3.out.size))
  clear h4
  go_wp2_with fail
  refine (Err.bare_any x code (-1) code _ (HG.out.below H4.out) (HX.out _)).mono ?_; rintro e w5 ⟨rfl, h5⟩
  have x0 := keepc (keepc XY.out.1 h4'.out) h5
  have x1 := keepc (keepc XY.out.2.1 h4'.out) h5
  have x2 := keepc (keepc XY.out.2.2.1 h4'.out) h5
  have y0 := keepc (keepc XY.out.2.2.2.1 h4'.out) h5
  have y1 := keepc (keepc XY.out.2.2.2.2.1 h4'.out) h5
  have y2 := keepc (keepc XY.out.2.2.2.2.2 h4'.out) h5
  have H5 := Lib.hid (H4.out.trans (h5.mono H4.out.size))
  clear h5
  go_wp2_with fail
  refine (Err.bare_any y code (-1) code _ (HG.out.below H5.out) (HY.out _)).mono ?_; rintro e w6 ⟨rfl, h6⟩
  have H6 := Lib.hid (H5.out.trans (h6.mono H5.out.size))
  clear h6
  go_wp2_with fail
  go_ret
  exact ⟨ret_bool (by simp), H6.out⟩
theorem realParts_walk (a0 a1 : Int) (w0 : (Lit.int .u64 a0).wf = true) (W : World) (hg : Err.Home W) :
    Calls Tryd.prog 7 #[.int .u64 a0, .int .i64 a1] W fun e w' => e = .returned (.bool true) ∧ Below W.heap.size W w' := by
  obtain ⟨b0, b1⟩ := bounds_u64 w0
  have e1 : ∀ w', Err.ErrIs w' (.iface 28 (.int .i64 1)) 1 (-1) := fun _ => .inr (.inl ⟨rfl, rfl⟩)
  have e0 : ∀ w', Err.ErrIs w' .nilIface 0 (-1) := fun _ => .inl ⟨rfl, rfl, rfl⟩
  by_cases h32 : a1 = 32
  · subst h32
    exact parts_main a0 32 _ _ _ _ 0 _ _ W hg e0 e0 (fun W' => docApart_32 a0 b0 b1 W') (fun W' => apart_32 a0 b0 b1 W') (fun W' => docClass_32 a0 b0 b1 W') (fun W' => class_32 a0 b0 b1 W')
  by_cases h64 : a1 = 64
  · subst h64
    exact parts_main a0 64 _ _ _ _ 0 _ _ W hg e0 e0 (fun W' => docApart_64 a0 b0 b1 W') (fun W' => apart_64 a0 b0 b1 W') (fun W' => docClass_64 a0 b0 b1 W') (fun W' => class_64 a0 b0 b1 W')
  · exact parts_main a0 a1 _ _ _ _ 1 _ _ W hg e1 e1 (fun W' => docApart_no a0 a1 h32 h64 W') (fun W' => apart_no a0 a1 h32 h64 W') (fun W' => docClass_no a0 a1 h32 h64 W') (fun W' => class_no a0 a1 h32 h64 W')
end Go.Proofs.YtebjccenlfhilaaDoor.Real
