/-
  PROVED HERE: which sums can be made; the contracts of sums.mask, sums.Right and the document's SumRight. Conditions: as each theorem states.
-/
import Derived.Test.YtifnochpmlllgaaDoorSumA
namespace Go.Proofs.YtifnochpmlllgaaDoor.Sum
open Go.RowKit
def good (w : Int) (P I O : Nat) : Prop := (w = 8 ∨ w = 16 ∨ w = 32) ∧ P % 2 = 1 ∧ P < 2 ^ w.toNat ∧ I < 2 ^ w.toNat ∧ O < 2 ^ w.toNat
instance (w : Int) (P I O : Nat) : Decidable (good w P I O) := by unfold good; infer_instance
def Sm (w : Int) (P : Nat) (t : Bool) (I O : Nat) : Value := .agg #[.int .i64 w, .int .u32 P, .bool t, .int .u32 I, .int .u32 O]
theorem odd_bit (P : Nat) (h : P < 4294967296) : bits .and .u32 (P : Int) 1 = ((P % 2 : Nat) : Int) := by
  rw [show (1 : Int) = ((1 : Nat) : Int) from rfl, u32_and_nat P 1 h (by decide), Nat.and_one_is_mod]
set_option maxRecDepth 100000 in
set_option maxHeartbeats 2000000 in
theorem right_any (w : Int) (P : Nat) (t : Bool) (I O : Nat) (hw : -9223372036854775808 ≤ w ∧ w ≤ 9223372036854775807) (hP : P < 4294967296) (hI : I < 4294967296) (hO : O < 4294967296) (W : World) :
    Calls Tryd.prog 44 #[Sm w P t I O] W fun e w' => e = .returned (.bool (decide (good w P I O))) ∧ Below W.heap.size W w' := by
  have hodd := odd_bit P hP
  unfold Sm
  by_cases h8 : w = 8
  · subst h8
    rcases (show (P % 2 = 0) ∨ (P % 2 = 1 ∧ 255 < P) ∨ (P % 2 = 1 ∧ P ≤ 255 ∧ 255 < I) ∨ (P % 2 = 1 ∧ P ≤ 255 ∧ I ≤ 255 ∧ 255 < O) ∨ (P % 2 = 1 ∧ P ≤ 255 ∧ I ≤ 255 ∧ O ≤ 255) by omega) with c1 | ⟨c1, c2⟩ | ⟨c1, c2, c3⟩ | ⟨c1, c2, c3, c4⟩ | ⟨c1, c2, c3, c4⟩
    · have g : Hid (decide (good 8 P I O) = false) := Lib.hid (decide_eq_false (by unfold good; simp; omega))
      rw [c1] at hodd
      go_enter Tryd.func44, Tryd.ntmps44
      go_wp2_with fail
      go_ret
      exact ⟨ret_bool g.out.symm, (Below.refl _ _).alloc (Nat.le_refl _) _⟩
    · have g : Hid (decide (good 8 P I O) = false) := Lib.hid (decide_eq_false (by unfold good; simp; omega))
      rw [c1] at hodd
      have d2 : decide ((P : Int) ≤ 255) = false := decide_eq_false (by omega)
      go_enter Tryd.func44, Tryd.ntmps44
      go_wp2_with fail
      go_ret
      exact ⟨ret_bool g.out.symm, (Below.refl _ _).alloc (Nat.le_refl _) _⟩
    · have g : Hid (decide (good 8 P I O) = false) := Lib.hid (decide_eq_false (by unfold good; simp; omega))
      rw [c1] at hodd
      have d2 : decide ((P : Int) ≤ 255) = true := decide_eq_true (by omega)
      have d3 : decide ((I : Int) ≤ 255) = false := decide_eq_false (by omega)
      go_enter Tryd.func44, Tryd.ntmps44
      go_wp2_with fail
      go_ret
      exact ⟨ret_bool g.out.symm, (Below.refl _ _).alloc (Nat.le_refl _) _⟩
    · have g : Hid (decide (good 8 P I O) = false) := Lib.hid (decide_eq_false (by unfold good; simp; omega))
      rw [c1] at hodd
      have d2 : decide ((P : Int) ≤ 255) = true := decide_eq_true (by omega)
      have d3 : decide ((I : Int) ≤ 255) = true := decide_eq_true (by omega)
      have d4 : decide ((O : Int) ≤ 255) = false := decide_eq_false (by omega)
      go_enter Tryd.func44, Tryd.ntmps44
      go_wp2_with fail
      go_ret
      exact ⟨ret_bool g.out.symm, (Below.refl _ _).alloc (Nat.le_refl _) _⟩
    · have g : Hid (decide (good 8 P I O) = true) := Lib.hid (decide_eq_true (by unfold good; simp; omega))
      rw [c1] at hodd
      have d2 : decide ((P : Int) ≤ 255) = true := decide_eq_true (by omega)
      have d3 : decide ((I : Int) ≤ 255) = true := decide_eq_true (by omega)
      have d4 : decide ((O : Int) ≤ 255) = true := decide_eq_true (by omega)
      go_enter Tryd.func44, Tryd.ntmps44
      go_wp2_with fail
      go_ret
      exact ⟨ret_bool g.out.symm, (Below.refl _ _).alloc (Nat.le_refl _) _⟩
  by_cases h16 : w = 16
  · subst h16
    rcases (show (P % 2 = 0) ∨ (P % 2 = 1 ∧ 65535 < P) ∨ (P % 2 = 1 ∧ P ≤ 65535 ∧ 65535 < I) ∨ (P % 2 = 1 ∧ P ≤ 65535 ∧ I ≤ 65535 ∧ 65535 < O) ∨ (P % 2 = 1 ∧ P ≤ 65535 ∧ I ≤ 65535 ∧ O ≤ 65535) by omega) with c1 | ⟨c1, c2⟩ | ⟨c1, c2, c3⟩ | ⟨c1, c2, c3, c4⟩ | ⟨c1, c2, c3, c4⟩
    · have g : Hid (decide (good 16 P I O) = false) := Lib.hid (decide_eq_false (by unfold good; simp; omega))
      rw [c1] at hodd
      go_enter Tryd.func44, Tryd.ntmps44
      go_wp2_with fail
      go_ret
      exact ⟨ret_bool g.out.symm, (Below.refl _ _).alloc (Nat.le_refl _) _⟩
    · have g : Hid (decide (good 16 P I O) = false) := Lib.hid (decide_eq_false (by unfold good; simp; omega))
      rw [c1] at hodd
      have d2 : decide ((P : Int) ≤ 65535) = false := decide_eq_false (by omega)
      go_enter Tryd.func44, Tryd.ntmps44
      go_wp2_with fail
      go_ret
      exact ⟨ret_bool g.out.symm, (Below.refl _ _).alloc (Nat.le_refl _) _⟩
    · have g : Hid (decide (good 16 P I O) = false) := Lib.hid (decide_eq_false (by unfold good; simp; omega))
      rw [c1] at hodd
      have d2 : decide ((P : Int) ≤ 65535) = true := decide_eq_true (by omega)
      have d3 : decide ((I : Int) ≤ 65535) = false := decide_eq_false (by omega)
      go_enter Tryd.func44, Tryd.ntmps44
      go_wp2_with fail
      go_ret
      exact ⟨ret_bool g.out.symm, (Below.refl _ _).alloc (Nat.le_refl _) _⟩
    · have g : Hid (decide (good 16 P I O) = false) := Lib.hid (decide_eq_false (by unfold good; simp; omega))
      rw [c1] at hodd
      have d2 : decide ((P : Int) ≤ 65535) = true := decide_eq_true (by omega)
      have d3 : decide ((I : Int) ≤ 65535) = true := decide_eq_true (by omega)
      have d4 : decide ((O : Int) ≤ 65535) = false := decide_eq_false (by omega)
      go_enter Tryd.func44, Tryd.ntmps44
      go_wp2_with fail
      go_ret
      exact ⟨ret_bool g.out.symm, (Below.refl _ _).alloc (Nat.le_refl _) _⟩
    · have g : Hid (decide (good 16 P I O) = true) := Lib.hid (decide_eq_true (by unfold good; simp; omega))
      rw [c1] at hodd
      have d2 : decide ((P : Int) ≤ 65535) = true := decide_eq_true (by omega)
      have d3 : decide ((I : Int) ≤ 65535) = true := decide_eq_true (by omega)
      have d4 : decide ((O : Int) ≤ 65535) = true := decide_eq_true (by omega)
      go_enter Tryd.func44, Tryd.ntmps44
      go_wp2_with fail
      go_ret
      exact ⟨ret_bool g.out.symm, (Below.refl _ _).alloc (Nat.le_refl _) _⟩
  by_cases h32 : w = 32
  · subst h32
    rcases (show P % 2 = 0 ∨ P % 2 = 1 by omega) with c1 | c1
    · have g : Hid (decide (good 32 P I O) = false) := Lib.hid (decide_eq_false (by unfold good; omega))
      rw [c1] at hodd
      go_enter Tryd.func44, Tryd.ntmps44
      go_wp2_with fail
      go_ret
      exact ⟨ret_bool g.out.symm, (Below.refl _ _).alloc (Nat.le_refl _) _⟩
    · have g : Hid (decide (good 32 P I O) = true) := Lib.hid (decide_eq_true ⟨.inr (.inr rfl), c1, hP, hI, hO⟩)
      rw [c1] at hodd
      go_enter Tryd.func44, Tryd.ntmps44
      go_wp2_with fail
      go_ret
      exact ⟨ret_bool g.out.symm, (Below.refl _ _).alloc (Nat.le_refl _) _⟩
  · have g : Hid (decide (good w P I O) = false) := Lib.hid (decide_eq_false (by unfold good; omega))
    have b1 : (w == 8) = false := by rw [beq_eq_false_iff_ne]; exact h8
    have b2 : (w == 16) = false := by rw [beq_eq_false_iff_ne]; exact h16
    have b3 : (w == 32) = false := by rw [beq_eq_false_iff_ne]; exact h32
    clear hodd
    go_enter Tryd.func44, Tryd.ntmps44
    go_wp2_with fail
    go_ret
    exact ⟨ret_bool g.out.symm, (Below.refl _ _).alloc (Nat.le_refl _) _⟩
end Go.Proofs.YtifnochpmlllgaaDoor.Sum
