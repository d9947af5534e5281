/-
  PROVED HERE: the contracts of sums.mask and of the document's SumRight. Conditions: as each theorem states.
-/
import Derived.Test.YtifnochpmlllgaaDoorSumB
namespace Go.Proofs.YtifnochpmlllgaaDoor.Sum
open Go.RowKit
set_option maxRecDepth 100000 in
set_option maxHeartbeats 1000000 in
theorem mask_any (w : Nat) (hw : w = 8 ∨ w = 16 ∨ w = 32) (W : World) : Calls Tryd.prog 93 #[.int .i64 w] W fun e w' => e = .returned (.int .u32 ((2 ^ w - 1 : Nat) : Int)) ∧ W = w' := by
  rcases hw with rfl | rfl | rfl
  all_goals
    go_enter Tryd.func93, Tryd.ntmps93
    go_wp2_with fail
    go_ret
    exact ⟨rfl, rfl⟩
set_option maxRecDepth 100000 in
set_option maxHeartbeats 2000000 in
theorem docRight_any (w : Int) (P : Nat) (t : Bool) (I O : Nat) (hw : -9223372036854775808 ≤ w ∧ w ≤ 9223372036854775807) (hP : P < 4294967296) (hI : I < 4294967296) (hO : O < 4294967296) (W : World) :
    Calls Tryd.prog 45 #[Sm w P t I O] W fun e w' => e = .returned (.bool (decide (good w P I O))) ∧ Below W.heap.size W w' := by
  unfold Sm
  by_cases h8 : w = 8
  · subst h8
    rcases (show (P % 2 = 0) ∨ (P % 2 = 1 ∧ 256 ≤ P) ∨ (P % 2 = 1 ∧ P < 256 ∧ 256 ≤ I) ∨ (P % 2 = 1 ∧ P < 256 ∧ I < 256 ∧ 256 ≤ O) ∨ (P % 2 = 1 ∧ P < 256 ∧ I < 256 ∧ O < 256) by omega) with c1 | ⟨c1, c2⟩ | ⟨c1, c2, c3⟩ | ⟨c1, c2, c3, c4⟩ | ⟨c1, c2, c3, c4⟩
    · have g : Hid (decide (good 8 P I O) = false) := Lib.hid (decide_eq_false (by unfold good; simp; omega))
      have c0 : ((P : Int) % 2 == 1) = false := by rw [beq_eq_false_iff_ne]; omega
      go_enter Tryd.func45, Tryd.ntmps45
      go_wp2_with fail
      refine (Pow.pow2_is 8 (by decide) (by decide) 256 (by decide) _).mono ?_; rintro e w' ⟨rfl, rfl⟩
      go_wp2_with fail
      go_ret
      exact ⟨ret_bool g.out.symm, (Below.refl _ _).alloc (Nat.le_refl _) _⟩
    · have g : Hid (decide (good 8 P I O) = false) := Lib.hid (decide_eq_false (by unfold good; simp; omega))
      have c0 : ((P : Int) % 2 == 1) = true := by rw [beq_iff_eq]; omega
      have d2 : decide ((P : Int) < 256) = false := decide_eq_false (by omega)
      go_enter Tryd.func45, Tryd.ntmps45
      go_wp2_with fail
      refine (Pow.pow2_is 8 (by decide) (by decide) 256 (by decide) _).mono ?_; rintro e w' ⟨rfl, rfl⟩
      go_wp2_with fail
      go_ret
      exact ⟨ret_bool g.out.symm, (Below.refl _ _).alloc (Nat.le_refl _) _⟩
    · have g : Hid (decide (good 8 P I O) = false) := Lib.hid (decide_eq_false (by unfold good; simp; omega))
      have c0 : ((P : Int) % 2 == 1) = true := by rw [beq_iff_eq]; omega
      have d2 : decide ((P : Int) < 256) = true := decide_eq_true (by omega)
      have d3 : decide ((I : Int) < 256) = false := decide_eq_false (by omega)
      go_enter Tryd.func45, Tryd.ntmps45
      go_wp2_with fail
      refine (Pow.pow2_is 8 (by decide) (by decide) 256 (by decide) _).mono ?_; rintro e w' ⟨rfl, rfl⟩
      go_wp2_with fail
      go_ret
      exact ⟨ret_bool g.out.symm, (Below.refl _ _).alloc (Nat.le_refl _) _⟩
    · have g : Hid (decide (good 8 P I O) = false) := Lib.hid (decide_eq_false (by unfold good; simp; omega))
      have c0 : ((P : Int) % 2 == 1) = true := by rw [beq_iff_eq]; omega
      have d2 : decide ((P : Int) < 256) = true := decide_eq_true (by omega)
      have d3 : decide ((I : Int) < 256) = true := decide_eq_true (by omega)
      have d4 : decide ((O : Int) < 256) = false := decide_eq_false (by omega)
      go_enter Tryd.func45, Tryd.ntmps45
      go_wp2_with fail
      refine (Pow.pow2_is 8 (by decide) (by decide) 256 (by decide) _).mono ?_; rintro e w' ⟨rfl, rfl⟩
      go_wp2_with fail
      go_ret
      exact ⟨ret_bool g.out.symm, (Below.refl _ _).alloc (Nat.le_refl _) _⟩
    · have g : Hid (decide (good 8 P I O) = true) := Lib.hid (decide_eq_true (by unfold good; simp; omega))
      have c0 : ((P : Int) % 2 == 1) = true := by rw [beq_iff_eq]; omega
      have d2 : decide ((P : Int) < 256) = true := decide_eq_true (by omega)
      have d3 : decide ((I : Int) < 256) = true := decide_eq_true (by omega)
      have d4 : decide ((O : Int) < 256) = true := decide_eq_true (by omega)
      go_enter Tryd.func45, Tryd.ntmps45
      go_wp2_with fail
      refine (Pow.pow2_is 8 (by decide) (by decide) 256 (by decide) _).mono ?_; rintro e w' ⟨rfl, rfl⟩
      go_wp2_with fail
      go_ret
      exact ⟨ret_bool g.out.symm, (Below.refl _ _).alloc (Nat.le_refl _) _⟩
  by_cases h16 : w = 16
  · subst h16
    rcases (show (P % 2 = 0) ∨ (P % 2 = 1 ∧ 65536 ≤ P) ∨ (P % 2 = 1 ∧ P < 65536 ∧ 65536 ≤ I) ∨ (P % 2 = 1 ∧ P < 65536 ∧ I < 65536 ∧ 65536 ≤ O) ∨ (P % 2 = 1 ∧ P < 65536 ∧ I < 65536 ∧ O < 65536) by omega) with c1 | ⟨c1, c2⟩ | ⟨c1, c2, c3⟩ | ⟨c1, c2, c3, c4⟩ | ⟨c1, c2, c3, c4⟩
    · have g : Hid (decide (good 16 P I O) = false) := Lib.hid (decide_eq_false (by unfold good; simp; omega))
      have c0 : ((P : Int) % 2 == 1) = false := by rw [beq_eq_false_iff_ne]; omega
      go_enter Tryd.func45, Tryd.ntmps45
      go_wp2_with fail
      refine (Pow.pow2_is 16 (by decide) (by decide) 65536 (by decide) _).mono ?_; rintro e w' ⟨rfl, rfl⟩
      go_wp2_with fail
      go_ret
      exact ⟨ret_bool g.out.symm, (Below.refl _ _).alloc (Nat.le_refl _) _⟩
    · have g : Hid (decide (good 16 P I O) = false) := Lib.hid (decide_eq_false (by unfold good; simp; omega))
      have c0 : ((P : Int) % 2 == 1) = true := by rw [beq_iff_eq]; omega
      have d2 : decide ((P : Int) < 65536) = false := decide_eq_false (by omega)
      go_enter Tryd.func45, Tryd.ntmps45
      go_wp2_with fail
      refine (Pow.pow2_is 16 (by decide) (by decide) 65536 (by decide) _).mono ?_; rintro e w' ⟨rfl, rfl⟩
      go_wp2_with fail
      go_ret
      exact ⟨ret_bool g.out.symm, (Below.refl _ _).alloc (Nat.le_refl _) _⟩
    · have g : Hid (decide (good 16 P I O) = false) := Lib.hid (decide_eq_false (by unfold good; simp; omega))
      have c0 : ((P : Int) % 2 == 1) = true := by rw [beq_iff_eq]; omega
      have d2 : decide ((P : Int) < 65536) = true := decide_eq_true (by omega)
      have d3 : decide ((I : Int) < 65536) = false := decide_eq_false (by omega)
      go_enter Tryd.func45, Tryd.ntmps45
      go_wp2_with fail
      refine (Pow.pow2_is 16 (by decide) (by decide) 65536 (by decide) _).mono ?_; rintro e w' ⟨rfl, rfl⟩
      go_wp2_with fail
      go_ret
      exact ⟨ret_bool g.out.symm, (Below.refl _ _).alloc (Nat.le_refl _) _⟩
    · have g : Hid (decide (good 16 P I O) = false) := Lib.hid (decide_eq_false (by unfold good; simp; omega))
      have c0 : ((P : Int) % 2 == 1) = true := by rw [beq_iff_eq]; omega
      have d2 : decide ((P : Int) < 65536) = true := decide_eq_true (by omega)
      have d3 : decide ((I : Int) < 65536) = true := decide_eq_true (by omega)
      have d4 : decide ((O : Int) < 65536) = false := decide_eq_false (by omega)
      go_enter Tryd.func45, Tryd.ntmps45
      go_wp2_with fail
      refine (Pow.pow2_is 16 (by decide) (by decide) 65536 (by decide) _).mono ?_; rintro e w' ⟨rfl, rfl⟩
      go_wp2_with fail
      go_ret
      exact ⟨ret_bool g.out.symm, (Below.refl _ _).alloc (Nat.le_refl _) _⟩
    · have g : Hid (decide (good 16 P I O) = true) := Lib.hid (decide_eq_true (by unfold good; simp; omega))
      have c0 : ((P : Int) % 2 == 1) = true := by rw [beq_iff_eq]; omega
      have d2 : decide ((P : Int) < 65536) = true := decide_eq_true (by omega)
      have d3 : decide ((I : Int) < 65536) = true := decide_eq_true (by omega)
      have d4 : decide ((O : Int) < 65536) = true := decide_eq_true (by omega)
      go_enter Tryd.func45, Tryd.ntmps45
      go_wp2_with fail
      refine (Pow.pow2_is 16 (by decide) (by decide) 65536 (by decide) _).mono ?_; rintro e w' ⟨rfl, rfl⟩
      go_wp2_with fail
      go_ret
      exact ⟨ret_bool g.out.symm, (Below.refl _ _).alloc (Nat.le_refl _) _⟩
  by_cases h32 : w = 32
  · subst h32
    rcases (show (P % 2 = 0) ∨ (P % 2 = 1 ∧ P < 4294967296 ∧ I < 4294967296 ∧ O < 4294967296) by omega) with c1 | ⟨c1, c2, c3, c4⟩
    · have g : Hid (decide (good 32 P I O) = false) := Lib.hid (decide_eq_false (by unfold good; simp; omega))
      have c0 : ((P : Int) % 2 == 1) = false := by rw [beq_eq_false_iff_ne]; omega
      go_enter Tryd.func45, Tryd.ntmps45
      go_wp2_with fail
      refine (Pow.pow2_is 32 (by decide) (by decide) 4294967296 (by decide) _).mono ?_; rintro e w' ⟨rfl, rfl⟩
      go_wp2_with fail
      go_ret
      exact ⟨ret_bool g.out.symm, (Below.refl _ _).alloc (Nat.le_refl _) _⟩
    · have g : Hid (decide (good 32 P I O) = true) := Lib.hid (decide_eq_true (by unfold good; simp; omega))
      have c0 : ((P : Int) % 2 == 1) = true := by rw [beq_iff_eq]; omega
      have d2 : decide ((P : Int) < 4294967296) = true := decide_eq_true (by omega)
      have d3 : decide ((I : Int) < 4294967296) = true := decide_eq_true (by omega)
      have d4 : decide ((O : Int) < 4294967296) = true := decide_eq_true (by omega)
      go_enter Tryd.func45, Tryd.ntmps45
      go_wp2_with fail
      refine (Pow.pow2_is 32 (by decide) (by decide) 4294967296 (by decide) _).mono ?_; rintro e w' ⟨rfl, rfl⟩
      go_wp2_with fail
      go_ret
      exact ⟨ret_bool g.out.symm, (Below.refl _ _).alloc (Nat.le_refl _) _⟩
  · have g : Hid (decide (good w P I O) = false) := Lib.hid (decide_eq_false (by unfold good; omega))
    have b1 : (w == 8) = false := by rw [beq_eq_false_iff_ne]; exact h8
    have b2 : (w == 16) = false := by rw [beq_eq_false_iff_ne]; exact h16
    have b3 : (w == 32) = false := by rw [beq_eq_false_iff_ne]; exact h32
    have c1 : (w != 8) = true := by rw [bne_iff_ne]; exact h8
    have c2 : (w != 16) = true := by rw [bne_iff_ne]; exact h16
    have c3 : (w != 32) = true := by rw [bne_iff_ne]; exact h32
    go_enter Tryd.func45, Tryd.ntmps45
    go_wp2_with fail
    go_ret
    exact ⟨ret_bool g.out.symm, (Below.refl _ _).alloc (Nat.le_refl _) _⟩
end Go.Proofs.YtifnochpmlllgaaDoor.Sum
