/-
  PROVED HERE: registers' names, and the contracts of the small functions on them. Conditions: as each theorem states.
-/
import Derived.Test.YthkigjhbcempbaaDoorRgA
import Derived.Test.YthkigjhbcempbaaDoorErrB
namespace Go.Proofs.YthkigjhbcempbaaDoor.Rg
open Go.RowKit
def low (c : Nat) : Nat := if 65 ≤ c ∧ c ≤ 90 then c + 32 else c
def big (c : Nat) : Bool := decide (65 ≤ c ∧ c ≤ 90)
def nm (c : Nat) : Bool := decide (97 ≤ low c ∧ low c ≤ 122) || decide (low c = 34)
theorem low_lt (c : Nat) (h : c < 256) : low c < 256 := by unfold low; split <;> omega
theorem small_any (c : Nat) (hc : c < 256) (W : World) : Calls Tryd.prog 23 #[.int .u8 c] W fun e w' => e = .returned (.tuple #[.int .u8 (low c), .bool (big c)]) ∧ W = w' := by
  by_cases h1 : 65 ≤ c ∧ c ≤ 90
  · have e1 : low c = c + 32 := by unfold low; rw [if_pos h1]
    have e2 : big c = true := by unfold big; rw [decide_eq_true h1]
    obtain ⟨h2, h3⟩ := h1
    rw [e1, e2]
    go_enter Tryd.func23, Tryd.ntmps23
    go_wp2_with fail
    go_ret2
    refine ⟨?_, rfl⟩
    congr 4
    simp
    omega
  · have e1 : low c = c := by unfold low; rw [if_neg h1]
    have e2 : big c = false := by unfold big; rw [decide_eq_false h1]
    rw [e1, e2]
    rcases (show c < 65 ∨ (65 ≤ c ∧ 90 < c) by omega) with h2 | ⟨h2, h3⟩
    all_goals
      go_enter Tryd.func23, Tryd.ntmps23
      go_wp2_with fail
      go_ret2
      exact ⟨rfl, rfl⟩
theorem docSmall_any (c : Nat) (hc : c < 256) (W : World) : Calls Tryd.prog 24 #[.int .u8 c] W fun e w' => e = .returned (.int .u8 (low c)) ∧ W = w' := by
  by_cases h1 : 65 ≤ c ∧ c ≤ 90
  · have e1 : low c = c + 32 := by unfold low; rw [if_pos h1]
    obtain ⟨h2, h3⟩ := h1
    rw [e1]
    go_enter Tryd.func24, Tryd.ntmps24
    go_wp2_with fail
    go_ret
    refine ⟨?_, rfl⟩
    first | rfl | (congr 2) | (simp)
  · have e1 : low c = c := by unfold low; rw [if_neg h1]
    rw [e1]
    rcases (show c < 65 ∨ (65 ≤ c ∧ 90 < c) by omega) with h2 | ⟨h2, h3⟩
    all_goals
      go_enter Tryd.func24, Tryd.ntmps24
      go_wp2_with fail
      go_ret
      exact ⟨rfl, rfl⟩
theorem name_any (c : Nat) (hc : c < 256) (W : World) : Calls Tryd.prog 13 #[.int .u8 c] W fun e w' => e = .returned (.bool (nm c)) ∧ W = w' := by
  have S := Lib.hid (small_any c hc)
  unfold nm
  generalize hd : low c = d at *
  have hdl : d < 256 := by rw [← hd]; exact low_lt c hc
  generalize big c = b at *
  clear hd
  rcases (show (97 ≤ d ∧ d ≤ 122) ∨ (d < 97 ∧ d = 34) ∨ (d < 97 ∧ d ≠ 34) ∨ (97 ≤ d ∧ 122 < d) by omega) with ⟨h1, h2⟩ | ⟨h1, h2⟩ | ⟨h1, h2⟩ | ⟨h1, h2⟩
  · rw [decide_eq_true (show 97 ≤ d ∧ d ≤ 122 from ⟨h1, h2⟩)]
    go_enter Tryd.func13, Tryd.ntmps13
    go_wp2_with fail
    refine (S.out _).mono ?_; rintro e w1 ⟨rfl, rfl⟩
    go_wp2_with fail
    go_ret
    exact ⟨rfl, rfl⟩
  · subst h2
    go_enter Tryd.func13, Tryd.ntmps13
    go_wp2_with fail
    refine (S.out _).mono ?_; rintro e w1 ⟨rfl, rfl⟩
    go_wp2_with fail
    go_ret
    exact ⟨rfl, rfl⟩
  · rw [decide_eq_false (show ¬ (97 ≤ d ∧ d ≤ 122) by omega), decide_eq_false h2]
    have q : (((d : Nat) : Int) == 34) = false := by simp; omega
    go_enter Tryd.func13, Tryd.ntmps13
    go_wp2_with fail
    refine (S.out _).mono ?_; rintro e w1 ⟨rfl, rfl⟩
    go_wp2_with fail
    go_ret
    exact ⟨by first | rfl | (simp; done) | (simp; omega), rfl⟩
  · rw [decide_eq_false (show ¬ (97 ≤ d ∧ d ≤ 122) by omega), decide_eq_false (show ¬ d = 34 by omega)]
    have q : (((d : Nat) : Int) == 34) = false := by simp; omega
    go_enter Tryd.func13, Tryd.ntmps13
    go_wp2_with fail
    refine (S.out _).mono ?_; rintro e w1 ⟨rfl, rfl⟩
    go_wp2_with fail
    go_ret
    exact ⟨by first | rfl | (simp; done) | (simp; omega), rfl⟩
theorem low_34 (c : Nat) : low c = 34 ↔ c = 34 := by unfold low; split <;> omega
theorem docName_any (c : Nat) (hc : c < 256) (W : World) : Calls Tryd.prog 14 #[.int .u8 c] W fun e w' => e = .returned (.bool (nm c)) ∧ W = w' := by
  have S := Lib.hid (docSmall_any c hc)
  have h34 := low_34 c
  unfold nm
  by_cases hq : c = 34
  · subst hq
    rw [decide_eq_true (h34.2 rfl), Bool.or_true]
    clear h34 S
    go_enter Tryd.func14, Tryd.ntmps14
    go_wp2_with fail
    go_ret
    exact ⟨rfl, rfl⟩
  · rw [decide_eq_false (fun e => hq (h34.1 e)), Bool.or_false]
    have q : (((c : Nat) : Int) == 34) = false := by simp; omega
    generalize hd : low c = d at *
    have hdl : d < 256 := by rw [← hd]; exact low_lt c hc
    clear hd h34 hq
    rcases (show (97 ≤ d ∧ d ≤ 122) ∨ d < 97 ∨ (97 ≤ d ∧ 122 < d) by omega) with ⟨h1, h2⟩ | h1 | ⟨h1, h2⟩
    · rw [decide_eq_true (show 97 ≤ d ∧ d ≤ 122 from ⟨h1, h2⟩)]
      go_enter Tryd.func14, Tryd.ntmps14
      go_wp2_with fail
      refine (S.out _).mono ?_; rintro e w1 ⟨rfl, rfl⟩
      go_wp2_with fail
      refine (S.out _).mono ?_; rintro e w1 ⟨rfl, rfl⟩
      go_wp2_with fail
      go_ret
      exact ⟨by first | rfl | (simp; done) | (simp; omega), rfl⟩
    · rw [decide_eq_false (show ¬ (97 ≤ d ∧ d ≤ 122) by omega)]
      go_enter Tryd.func14, Tryd.ntmps14
      go_wp2_with fail
      refine (S.out _).mono ?_; rintro e w1 ⟨rfl, rfl⟩
      go_wp2_with fail
      go_ret
      exact ⟨by first | rfl | (simp; done) | (simp; omega), rfl⟩
    · rw [decide_eq_false (show ¬ (97 ≤ d ∧ d ≤ 122) by omega)]
      go_enter Tryd.func14, Tryd.ntmps14
      go_wp2_with fail
      refine (S.out _).mono ?_; rintro e w1 ⟨rfl, rfl⟩
      go_wp2_with fail
      refine (S.out _).mono ?_; rintro e w1 ⟨rfl, rfl⟩
      go_wp2_with fail
      go_ret
      exact ⟨by first | rfl | (simp; done) | (simp; omega), rfl⟩
end Go.Proofs.YthkigjhbcempbaaDoor.Rg
