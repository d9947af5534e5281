/-
  PROVED HERE: contracts of real.Class at every width. Conditions: as each theorem states.
-/
import Derived.Test.YtifnochpmlllgaaDoorRows
import Derived.Test.YtifnochpmlllgaaDoorRealD
namespace Go.Proofs.YtifnochpmlllgaaDoor.Real
open Go.RowKit

set_option maxRecDepth 100000 in
set_option maxHeartbeats 1000000 in
theorem class_32 (b : Int) (h0 : 0 ≤ b) (h1 : b ≤ 18446744073709551615) (W : World) :
    Calls Tryd.prog 87 #[.int .u64 b, .int .i64 32] W fun e w' => e = .returned (.tuple #[.int .i64 (cls 255 (exp32 b) (frac32 b)), .nilIface]) ∧ Below W.heap.size W w' := by
  have C := Lib.hid (apart_32 b h0 h1 W)
  obtain ⟨he0, he1⟩ := exp32_bd b
  obtain ⟨hf0, hf1⟩ := frac32_bd b
  have k2 : IntKind.i64.wrap 256 = 256 := by decide
  have k3 : IntKind.i64.wrap 255 = 255 := by decide
  clear h0 h1
  generalize exp32 b = E at *
  generalize frac32 b = F at *
  generalize neg32 b = N at *
  by_cases hE : E = 255
  · subst hE
    by_cases hF : 0 < F
    · have hcls : cls 255 255 F = 4 := by unfold cls; rw [if_pos rfl, if_pos hF]
      rw [hcls]
      clear hcls
      go_enter Tryd.func87, Tryd.ntmps87
      go_wp2_with fail
      refine C.out.mono ?_; rintro e w1 ⟨rfl, hb⟩
      have hbH := Lib.hid hb
      clear hb
      go_wp2_with fail
      refine (form_32 _).mono ?_; rintro e w2 ⟨rfl, hb⟩
      have c1 : w2.cell? ⟨w1.heap.size, 1, none⟩ = some (.int .i64 255) := (hb.cell (p := ⟨w1.heap.size, 1, none⟩) (by simp)).trans (by simp)
      have c2 : w2.cell? ⟨w1.heap.size, 2, none⟩ = some (.int .u64 F) := (hb.cell (p := ⟨w1.heap.size, 2, none⟩) (by simp)).trans (by simp)
      have hb2 := Lib.hid (hbH.out.trans (((Below.refl _ _).alloc (Nat.le_refl _) _).trans (hb.mono (by simp)) |>.mono hbH.out.size))
      clear hb
      go_wp2_with fail
      go_quiet (fail)
      go_wp2_with fail
      go_ret2
      first | exact ⟨rfl, below_drewN hb2.out _⟩ | exact ⟨rfl, below_drewN (below_drewN hb2.out _) _⟩
    · have hcls : cls 255 255 F = 3 := by unfold cls; rw [if_pos rfl, if_neg hF]
      rw [hcls]
      clear hcls
      go_enter Tryd.func87, Tryd.ntmps87
      go_wp2_with fail
      refine C.out.mono ?_; rintro e w1 ⟨rfl, hb⟩
      have hbH := Lib.hid hb
      clear hb
      go_wp2_with fail
      refine (form_32 _).mono ?_; rintro e w2 ⟨rfl, hb⟩
      have c1 : w2.cell? ⟨w1.heap.size, 1, none⟩ = some (.int .i64 255) := (hb.cell (p := ⟨w1.heap.size, 1, none⟩) (by simp)).trans (by simp)
      have c2 : w2.cell? ⟨w1.heap.size, 2, none⟩ = some (.int .u64 F) := (hb.cell (p := ⟨w1.heap.size, 2, none⟩) (by simp)).trans (by simp)
      have hb2 := Lib.hid (hbH.out.trans (((Below.refl _ _).alloc (Nat.le_refl _) _).trans (hb.mono (by simp)) |>.mono hbH.out.size))
      clear hb
      go_wp2_with fail
      go_quiet (fail)
      go_wp2_with fail
      go_quiet (fail)
      go_wp2_with fail
      go_ret2
      first | exact ⟨rfl, below_drewN hb2.out _⟩ | exact ⟨rfl, below_drewN (below_drewN hb2.out _) _⟩
  · have hE' : (E == 255) = false := by rw [beq_eq_false_iff_ne]; exact hE
    by_cases hE0 : 0 < E
    · have hcls : cls 255 E F = 2 := by unfold cls; rw [if_neg hE, if_pos hE0]
      rw [hcls]
      clear hcls hE
      go_enter Tryd.func87, Tryd.ntmps87
      go_wp2_with fail
      refine C.out.mono ?_; rintro e w1 ⟨rfl, hb⟩
      have hbH := Lib.hid hb
      clear hb
      go_wp2_with fail
      refine (form_32 _).mono ?_; rintro e w2 ⟨rfl, hb⟩
      have c1 : w2.cell? ⟨w1.heap.size, 1, none⟩ = some (.int .i64 E) := (hb.cell (p := ⟨w1.heap.size, 1, none⟩) (by simp)).trans (by simp)
      have c2 : w2.cell? ⟨w1.heap.size, 2, none⟩ = some (.int .u64 F) := (hb.cell (p := ⟨w1.heap.size, 2, none⟩) (by simp)).trans (by simp)
      have hb2 := Lib.hid (hbH.out.trans (((Below.refl _ _).alloc (Nat.le_refl _) _).trans (hb.mono (by simp)) |>.mono hbH.out.size))
      clear hb
      go_wp2_with fail
      go_quiet (fail)
      go_wp2_with fail
      go_quiet (fail)
      go_wp2_with fail
      go_ret2
      first | exact ⟨rfl, below_drewN hb2.out _⟩ | exact ⟨rfl, below_drewN (below_drewN hb2.out _) _⟩
    · by_cases hF : 0 < F
      · have hcls : cls 255 E F = 1 := by unfold cls; rw [if_neg hE, if_neg hE0, if_pos hF]
        rw [hcls]
        clear hcls hE
        go_enter Tryd.func87, Tryd.ntmps87
        go_wp2_with fail
        refine C.out.mono ?_; rintro e w1 ⟨rfl, hb⟩
        have hbH := Lib.hid hb
        clear hb
        go_wp2_with fail
        refine (form_32 _).mono ?_; rintro e w2 ⟨rfl, hb⟩
        have c1 : w2.cell? ⟨w1.heap.size, 1, none⟩ = some (.int .i64 E) := (hb.cell (p := ⟨w1.heap.size, 1, none⟩) (by simp)).trans (by simp)
        have c2 : w2.cell? ⟨w1.heap.size, 2, none⟩ = some (.int .u64 F) := (hb.cell (p := ⟨w1.heap.size, 2, none⟩) (by simp)).trans (by simp)
        have hb2 := Lib.hid (hbH.out.trans (((Below.refl _ _).alloc (Nat.le_refl _) _).trans (hb.mono (by simp)) |>.mono hbH.out.size))
        clear hb
        go_wp2_with fail
        go_quiet (fail)
        go_wp2_with fail
        go_quiet (fail)
        go_wp2_with fail
        go_ret2
        first | exact ⟨rfl, below_drewN hb2.out _⟩ | exact ⟨rfl, below_drewN (below_drewN hb2.out _) _⟩
      · have hcls : cls 255 E F = 0 := by unfold cls; rw [if_neg hE, if_neg hE0, if_neg hF]
        rw [hcls]
        clear hcls hE
        go_enter Tryd.func87, Tryd.ntmps87
        go_wp2_with fail
        refine C.out.mono ?_; rintro e w1 ⟨rfl, hb⟩
        have hbH := Lib.hid hb
        clear hb
        go_wp2_with fail
        refine (form_32 _).mono ?_; rintro e w2 ⟨rfl, hb⟩
        have c1 : w2.cell? ⟨w1.heap.size, 1, none⟩ = some (.int .i64 E) := (hb.cell (p := ⟨w1.heap.size, 1, none⟩) (by simp)).trans (by simp)
        have c2 : w2.cell? ⟨w1.heap.size, 2, none⟩ = some (.int .u64 F) := (hb.cell (p := ⟨w1.heap.size, 2, none⟩) (by simp)).trans (by simp)
        have hb2 := Lib.hid (hbH.out.trans (((Below.refl _ _).alloc (Nat.le_refl _) _).trans (hb.mono (by simp)) |>.mono hbH.out.size))
        clear hb
        go_wp2_with fail
        go_quiet (fail)
        go_wp2_with fail
        go_quiet (fail)
        go_wp2_with fail
        go_ret2
        first | exact ⟨rfl, below_drewN hb2.out _⟩ | exact ⟨rfl, below_drewN (below_drewN hb2.out _) _⟩
set_option maxRecDepth 100000 in
set_option maxHeartbeats 1000000 in
theorem class_64 (b : Int) (h0 : 0 ≤ b) (h1 : b ≤ 18446744073709551615) (W : World) :
    Calls Tryd.prog 87 #[.int .u64 b, .int .i64 64] W fun e w' => e = .returned (.tuple #[.int .i64 (cls 2047 (exp64 b) (frac64 b)), .nilIface]) ∧ Below W.heap.size W w' := by
  have C := Lib.hid (apart_64 b h0 h1 W)
  obtain ⟨he0, he1⟩ := exp64_bd b
  obtain ⟨hf0, hf1⟩ := frac64_bd b
  have k2 : IntKind.i64.wrap 2048 = 2048 := by decide
  have k3 : IntKind.i64.wrap 2047 = 2047 := by decide
  clear h0 h1
  generalize exp64 b = E at *
  generalize frac64 b = F at *
  generalize neg64 b = N at *
  by_cases hE : E = 2047
  · subst hE
    by_cases hF : 0 < F
    · have hcls : cls 2047 2047 F = 4 := by unfold cls; rw [if_pos rfl, if_pos hF]
      rw [hcls]
      clear hcls
      go_enter Tryd.func87, Tryd.ntmps87
      go_wp2_with fail
      refine C.out.mono ?_; rintro e w1 ⟨rfl, hb⟩
      have hbH := Lib.hid hb
      clear hb
      go_wp2_with fail
      refine (form_64 _).mono ?_; rintro e w2 ⟨rfl, hb⟩
      have c1 : w2.cell? ⟨w1.heap.size, 1, none⟩ = some (.int .i64 2047) := (hb.cell (p := ⟨w1.heap.size, 1, none⟩) (by simp)).trans (by simp)
      have c2 : w2.cell? ⟨w1.heap.size, 2, none⟩ = some (.int .u64 F) := (hb.cell (p := ⟨w1.heap.size, 2, none⟩) (by simp)).trans (by simp)
      have hb2 := Lib.hid (hbH.out.trans (((Below.refl _ _).alloc (Nat.le_refl _) _).trans (hb.mono (by simp)) |>.mono hbH.out.size))
      clear hb
      go_wp2_with fail
      go_quiet (fail)
      go_wp2_with fail
      go_ret2
      first | exact ⟨rfl, below_drewN hb2.out _⟩ | exact ⟨rfl, below_drewN (below_drewN hb2.out _) _⟩
    · have hcls : cls 2047 2047 F = 3 := by unfold cls; rw [if_pos rfl, if_neg hF]
      rw [hcls]
      clear hcls
      go_enter Tryd.func87, Tryd.ntmps87
      go_wp2_with fail
      refine C.out.mono ?_; rintro e w1 ⟨rfl, hb⟩
      have hbH := Lib.hid hb
      clear hb
      go_wp2_with fail
      refine (form_64 _).mono ?_; rintro e w2 ⟨rfl, hb⟩
      have c1 : w2.cell? ⟨w1.heap.size, 1, none⟩ = some (.int .i64 2047) := (hb.cell (p := ⟨w1.heap.size, 1, none⟩) (by simp)).trans (by simp)
      have c2 : w2.cell? ⟨w1.heap.size, 2, none⟩ = some (.int .u64 F) := (hb.cell (p := ⟨w1.heap.size, 2, none⟩) (by simp)).trans (by simp)
      have hb2 := Lib.hid (hbH.out.trans (((Below.refl _ _).alloc (Nat.le_refl _) _).trans (hb.mono (by simp)) |>.mono hbH.out.size))
      clear hb
      go_wp2_with fail
      go_quiet (fail)
      go_wp2_with fail
      go_quiet (fail)
      go_wp2_with fail
      go_ret2
      first | exact ⟨rfl, below_drewN hb2.out _⟩ | exact ⟨rfl, below_drewN (below_drewN hb2.out _) _⟩
  · have hE' : (E == 2047) = false := by rw [beq_eq_false_iff_ne]; exact hE
    by_cases hE0 : 0 < E
    · have hcls : cls 2047 E F = 2 := by unfold cls; rw [if_neg hE, if_pos hE0]
      rw [hcls]
      clear hcls hE
      go_enter Tryd.func87, Tryd.ntmps87
      go_wp2_with fail
      refine C.out.mono ?_; rintro e w1 ⟨rfl, hb⟩
      have hbH := Lib.hid hb
      clear hb
      go_wp2_with fail
      refine (form_64 _).mono ?_; rintro e w2 ⟨rfl, hb⟩
      have c1 : w2.cell? ⟨w1.heap.size, 1, none⟩ = some (.int .i64 E) := (hb.cell (p := ⟨w1.heap.size, 1, none⟩) (by simp)).trans (by simp)
      have c2 : w2.cell? ⟨w1.heap.size, 2, none⟩ = some (.int .u64 F) := (hb.cell (p := ⟨w1.heap.size, 2, none⟩) (by simp)).trans (by simp)
      have hb2 := Lib.hid (hbH.out.trans (((Below.refl _ _).alloc (Nat.le_refl _) _).trans (hb.mono (by simp)) |>.mono hbH.out.size))
      clear hb
      go_wp2_with fail
      go_quiet (fail)
      go_wp2_with fail
      go_quiet (fail)
      go_wp2_with fail
      go_ret2
      first | exact ⟨rfl, below_drewN hb2.out _⟩ | exact ⟨rfl, below_drewN (below_drewN hb2.out _) _⟩
    · by_cases hF : 0 < F
      · have hcls : cls 2047 E F = 1 := by unfold cls; rw [if_neg hE, if_neg hE0, if_pos hF]
        rw [hcls]
        clear hcls hE
        go_enter Tryd.func87, Tryd.ntmps87
        go_wp2_with fail
        refine C.out.mono ?_; rintro e w1 ⟨rfl, hb⟩
        have hbH := Lib.hid hb
        clear hb
        go_wp2_with fail
        refine (form_64 _).mono ?_; rintro e w2 ⟨rfl, hb⟩
        have c1 : w2.cell? ⟨w1.heap.size, 1, none⟩ = some (.int .i64 E) := (hb.cell (p := ⟨w1.heap.size, 1, none⟩) (by simp)).trans (by simp)
        have c2 : w2.cell? ⟨w1.heap.size, 2, none⟩ = some (.int .u64 F) := (hb.cell (p := ⟨w1.heap.size, 2, none⟩) (by simp)).trans (by simp)
        have hb2 := Lib.hid (hbH.out.trans (((Below.refl _ _).alloc (Nat.le_refl _) _).trans (hb.mono (by simp)) |>.mono hbH.out.size))
        clear hb
        go_wp2_with fail
        go_quiet (fail)
        go_wp2_with fail
        go_quiet (fail)
        go_wp2_with fail
        go_ret2
        first | exact ⟨rfl, below_drewN hb2.out _⟩ | exact ⟨rfl, below_drewN (below_drewN hb2.out _) _⟩
      · have hcls : cls 2047 E F = 0 := by unfold cls; rw [if_neg hE, if_neg hE0, if_neg hF]
        rw [hcls]
        clear hcls hE
        go_enter Tryd.func87, Tryd.ntmps87
        go_wp2_with fail
        refine C.out.mono ?_; rintro e w1 ⟨rfl, hb⟩
        have hbH := Lib.hid hb
        clear hb
        go_wp2_with fail
        refine (form_64 _).mono ?_; rintro e w2 ⟨rfl, hb⟩
        have c1 : w2.cell? ⟨w1.heap.size, 1, none⟩ = some (.int .i64 E) := (hb.cell (p := ⟨w1.heap.size, 1, none⟩) (by simp)).trans (by simp)
        have c2 : w2.cell? ⟨w1.heap.size, 2, none⟩ = some (.int .u64 F) := (hb.cell (p := ⟨w1.heap.size, 2, none⟩) (by simp)).trans (by simp)
        have hb2 := Lib.hid (hbH.out.trans (((Below.refl _ _).alloc (Nat.le_refl _) _).trans (hb.mono (by simp)) |>.mono hbH.out.size))
        clear hb
        go_wp2_with fail
        go_quiet (fail)
        go_wp2_with fail
        go_quiet (fail)
        go_wp2_with fail
        go_ret2
        first | exact ⟨rfl, below_drewN hb2.out _⟩ | exact ⟨rfl, below_drewN (below_drewN hb2.out _) _⟩
set_option maxRecDepth 100000 in
theorem class_no (b n : Int) (h32 : n ≠ 32) (h64 : n ≠ 64) (W : World) :
    Calls Tryd.prog 87 #[.int .u64 b, .int .i64 n] W fun e w' => e = .returned (.tuple #[.int .i64 0, .iface 23 (.int .i64 1)]) ∧ Below W.heap.size W w' := by
  have C := Lib.hid (apart_no b n h32 h64 W)
  clear h32 h64
  go_enter Tryd.func87, Tryd.ntmps87
  go_wp2_with fail
  refine C.out.mono ?_; rintro e w1 ⟨rfl, hb⟩
  have hbH := Lib.hid hb
  clear hb
  go_wp2_with fail
  go_ret2
  exact ⟨rfl, hbH.out.alloc hbH.out.size _⟩
end Go.Proofs.YtifnochpmlllgaaDoor.Real
