/-
  PROVED HERE: the law KeysAre returns true. Conditions: as each theorem states.
-/
import Derived.Test.YtifnochpmlllgaaKeyV
import Derived.Test.YtifnochpmlllgaaKeyZ
import Derived.Deep.RegionWith
import Derived.Deep.RegionHeld3
namespace Go.Proofs.Ytifnochpmlllgaa.Key
open Go.RowKit
set_option maxRecDepth 100000 in
set_option maxHeartbeats 4000000 in
theorem keys_walk (s : ByteArray) (W : World) : Calls Try.prog 3 #[.string s] W fun e w' => e = .returned (.bool true) ∧ Below W.heap.size W w' := by
  by_cases h1 : 60 < s.size
  · go_enter Try.func3, Try.ntmps3
    go_wp2_with fail
    go_ret
    exact ⟨rfl, Below.refl _ _⟩
  · have D1 := fun w => docParse_any s (by omega) w
    have D2 := fun w => parse_any s (by omega) w
    unfold KP at D1 D2
    generalize kp (lst s) = kq at *
    obtain ⟨c, n, k⟩ := kq
    obtain ⟨reg, num, op, mv, arg⟩ := c
    unfold Cv at D1 D2
    try simp only at D1 D2
    generalize (⟨arg.toArray⟩ : ByteArray) = a at *
    have H1 := Lib.hid D1
    have H2 := Lib.hid D2
    have H3 := Lib.hid (fun w => (motion_any reg num op mv a w).mono fun e w' ⟨x1, x2⟩ => (⟨x1, by subst x2; exact (Below.refl _ _).alloc (Nat.le_refl _) _⟩ : e = Ending.returned (.bool (mo op mv)) ∧ Below w.heap.size w w'))
    have H4 := Lib.hid (fun w => (isMotion_any reg num op mv a w).mono fun e w' ⟨x1, x2⟩ => (⟨x1, by subst x2; exact (Below.refl _ _).alloc (Nat.le_refl _) _⟩ : e = Ending.returned (.bool (mo op mv)) ∧ Below w.heap.size w w'))
    clear D1 D2
    go_enter Try.func3, Try.ntmps3
    go_wp2_with fail
    refine (H1.out _).mono ?_; rintro e w1 ⟨rfl, g1⟩
    have G1 := Lib.hid g1
    clear g1
    go_wp2_with fail
    refine (H2.out _).mono ?_; rintro e w2 ⟨rfl, g2⟩
    have G3 := G1.out.alloc G1.out.size (.cells #[.int .u8 reg.toNat, .int .i64 num, .int .u8 op.toNat, .int .u8 mv.toNat, .string a] 23)
    have G4 := G3.trans (g2.mono G3.size)
    have G2 := Lib.hid (G4.alloc G4.size (.cells #[.int .u8 reg.toNat, .int .i64 num, .int .u8 op.toNat, .int .u8 mv.toNat, .string a] 26))
    clear G3 G4
    have hz1 : w1.heap.size < w2.heap.size := by have := g2.size; simp at this; omega
    have q : ∀ j, w2.cell? ⟨w1.heap.size, j, none⟩ = (#[Value.int .u8 reg.toNat, .int .i64 num, .int .u8 op.toNat, .int .u8 mv.toNat, .string a])[j]? := fun j => by
      rw [Below.cell g2 (p := ⟨w1.heap.size, j, none⟩) (by simp), World.cell?_alloc_new]
    have q0 := q 0
    have q1 := q 1
    have q2 := q 2
    have q3 := q 3
    have q4 := q 4
    simp only [List.getElem?_toArray, List.getElem?_cons_zero, List.getElem?_cons_succ] at q0 q1 q2 q3 q4
    clear q g2
    go_wp2_with fail
    have hz2 := hz1
    have r0 : (w2.alloc (.cells #[.int .u8 reg.toNat, .int .i64 num, .int .u8 op.toNat, .int .u8 mv.toNat, .string a] 26)).cell? ⟨w1.heap.size, 0, none⟩ = some (.int .u8 reg.toNat) := by rw [World.cell?_alloc_past _ _ _ hz1]; exact q0
    have r1 : (w2.alloc (.cells #[.int .u8 reg.toNat, .int .i64 num, .int .u8 op.toNat, .int .u8 mv.toNat, .string a] 26)).cell? ⟨w1.heap.size, 1, none⟩ = some (.int .i64 num) := by rw [World.cell?_alloc_past _ _ _ hz1]; exact q1
    have r2 : (w2.alloc (.cells #[.int .u8 reg.toNat, .int .i64 num, .int .u8 op.toNat, .int .u8 mv.toNat, .string a] 26)).cell? ⟨w1.heap.size, 2, none⟩ = some (.int .u8 op.toNat) := by rw [World.cell?_alloc_past _ _ _ hz1]; exact q2
    have r3 : (w2.alloc (.cells #[.int .u8 reg.toNat, .int .i64 num, .int .u8 op.toNat, .int .u8 mv.toNat, .string a] 26)).cell? ⟨w1.heap.size, 3, none⟩ = some (.int .u8 mv.toNat) := by rw [World.cell?_alloc_past _ _ _ hz1]; exact q3
    have r4 : (w2.alloc (.cells #[.int .u8 reg.toNat, .int .i64 num, .int .u8 op.toNat, .int .u8 mv.toNat, .string a] 26)).cell? ⟨w1.heap.size, 4, none⟩ = some (.string a) := by rw [World.cell?_alloc_past _ _ _ hz1]; exact q4
    have p0 : (w2.alloc (.cells #[.int .u8 reg.toNat, .int .i64 num, .int .u8 op.toNat, .int .u8 mv.toNat, .string a] 26)).cell? ⟨w2.heap.size, 0, none⟩ = some (.int .u8 reg.toNat) := by rw [World.cell?_alloc_new]; rfl
    have p1 : (w2.alloc (.cells #[.int .u8 reg.toNat, .int .i64 num, .int .u8 op.toNat, .int .u8 mv.toNat, .string a] 26)).cell? ⟨w2.heap.size, 1, none⟩ = some (.int .i64 num) := by rw [World.cell?_alloc_new]; rfl
    have p2 : (w2.alloc (.cells #[.int .u8 reg.toNat, .int .i64 num, .int .u8 op.toNat, .int .u8 mv.toNat, .string a] 26)).cell? ⟨w2.heap.size, 2, none⟩ = some (.int .u8 op.toNat) := by rw [World.cell?_alloc_new]; rfl
    have p3 : (w2.alloc (.cells #[.int .u8 reg.toNat, .int .i64 num, .int .u8 op.toNat, .int .u8 mv.toNat, .string a] 26)).cell? ⟨w2.heap.size, 3, none⟩ = some (.int .u8 mv.toNat) := by rw [World.cell?_alloc_new]; rfl
    have p4 : (w2.alloc (.cells #[.int .u8 reg.toNat, .int .i64 num, .int .u8 op.toNat, .int .u8 mv.toNat, .string a] 26)).cell? ⟨w2.heap.size, 4, none⟩ = some (.string a) := by rw [World.cell?_alloc_new]; rfl
    generalize hw3 : w2.alloc (.cells #[.int .u8 reg.toNat, .int .i64 num, .int .u8 op.toNat, .int .u8 mv.toNat, .string a] 26) = w3 at *
    clear hw3 q0 q1 q2 q3 q4 hz2 hz1 G1 H1 H2
    generalize w1.heap.size = g at *
    generalize w2.heap.size = h at *
    go_region_held3 (fun w' => w'.cell? ⟨g, 0, none⟩ = some (.int .u8 reg.toNat) ∧ w'.cell? ⟨g, 1, none⟩ = some (.int .i64 num) ∧ w'.cell? ⟨g, 2, none⟩ = some (.int .u8 op.toNat) ∧ w'.cell? ⟨g, 3, none⟩ = some (.int .u8 mv.toNat) ∧ w'.cell? ⟨g, 4, none⟩ = some (.string a) ∧ w'.cell? ⟨h, 0, none⟩ = some (.int .u8 reg.toNat) ∧ w'.cell? ⟨h, 1, none⟩ = some (.int .i64 num) ∧ w'.cell? ⟨h, 2, none⟩ = some (.int .u8 op.toNat) ∧ w'.cell? ⟨h, 3, none⟩ = some (.int .u8 mv.toNat) ∧ w'.cell? ⟨h, 4, none⟩ = some (.string a)) (go_keep)
      (first
      | (go_at_call 6; refine (H3.out _).mono ?_; rintro e wa ⟨rfl, gg⟩
         have r0' : wa.cell? ⟨g, 0, none⟩ = some (.int .u8 reg.toNat) := keepCell gg (by first | assumption | exact r0 | exact r0')
         have r1' : wa.cell? ⟨g, 1, none⟩ = some (.int .i64 num) := keepCell gg (by first | assumption | exact r1 | exact r1')
         have r2' : wa.cell? ⟨g, 2, none⟩ = some (.int .u8 op.toNat) := keepCell gg (by first | assumption | exact r2 | exact r2')
         have r3' : wa.cell? ⟨g, 3, none⟩ = some (.int .u8 mv.toNat) := keepCell gg (by first | assumption | exact r3 | exact r3')
         have r4' : wa.cell? ⟨g, 4, none⟩ = some (.string a) := keepCell gg (by first | assumption | exact r4 | exact r4')
         have p0' : wa.cell? ⟨h, 0, none⟩ = some (.int .u8 reg.toNat) := keepCell gg (by first | assumption | exact p0 | exact p0')
         have p1' : wa.cell? ⟨h, 1, none⟩ = some (.int .i64 num) := keepCell gg (by first | assumption | exact p1 | exact p1')
         have p2' : wa.cell? ⟨h, 2, none⟩ = some (.int .u8 op.toNat) := keepCell gg (by first | assumption | exact p2 | exact p2')
         have p3' : wa.cell? ⟨h, 3, none⟩ = some (.int .u8 mv.toNat) := keepCell gg (by first | assumption | exact p3 | exact p3')
         have p4' : wa.cell? ⟨h, 4, none⟩ = some (.string a) := keepCell gg (by first | assumption | exact p4 | exact p4')
         have G3 := Lib.hid (G2.out.drew.trans (gg.mono G2.out.drew.size))
         clear gg)
      | (go_at_call 7; refine (H4.out _).mono ?_; rintro e wb ⟨rfl, gg⟩
         have r0' : wb.cell? ⟨g, 0, none⟩ = some (.int .u8 reg.toNat) := keepCell gg (by first | assumption | exact r0 | exact r0')
         have r1' : wb.cell? ⟨g, 1, none⟩ = some (.int .i64 num) := keepCell gg (by first | assumption | exact r1 | exact r1')
         have r2' : wb.cell? ⟨g, 2, none⟩ = some (.int .u8 op.toNat) := keepCell gg (by first | assumption | exact r2 | exact r2')
         have r3' : wb.cell? ⟨g, 3, none⟩ = some (.int .u8 mv.toNat) := keepCell gg (by first | assumption | exact r3 | exact r3')
         have r4' : wb.cell? ⟨g, 4, none⟩ = some (.string a) := keepCell gg (by first | assumption | exact r4 | exact r4')
         have p0' : wb.cell? ⟨h, 0, none⟩ = some (.int .u8 reg.toNat) := keepCell gg (by first | assumption | exact p0 | exact p0')
         have p1' : wb.cell? ⟨h, 1, none⟩ = some (.int .i64 num) := keepCell gg (by first | assumption | exact p1 | exact p1')
         have p2' : wb.cell? ⟨h, 2, none⟩ = some (.int .u8 op.toNat) := keepCell gg (by first | assumption | exact p2 | exact p2')
         have p3' : wb.cell? ⟨h, 3, none⟩ = some (.int .u8 mv.toNat) := keepCell gg (by first | assumption | exact p3 | exact p3')
         have p4' : wb.cell? ⟨h, 4, none⟩ = some (.string a) := keepCell gg (by first | assumption | exact p4 | exact p4')
         have G4 := Lib.hid (G3.out.trans (gg.mono G3.out.size))
         clear gg))
    all_goals
      go_wp2_with fail
      go_ret
      exact ⟨rfl, G4.out⟩
end Go.Proofs.Ytifnochpmlllgaa.Key
