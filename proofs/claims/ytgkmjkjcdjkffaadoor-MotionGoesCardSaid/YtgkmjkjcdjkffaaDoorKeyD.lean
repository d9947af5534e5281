/-
  PROVED HERE: the contracts of the document's isMotion, tailOf and times. Conditions: as each theorem states.
-/
import Derived.Test.YtgkmjkjcdjkffaaDoorKeyC
namespace Go.Proofs.YtgkmjkjcdjkffaaDoor.Key
open Go.RowKit
theorem str_none (s : ByteArray) (h : s.size = 0) : s.toList.isEmpty = true := by
  rw [ByteArray.toList_eq]
  have e : s.data.toList.length = s.size := rfl
  rw [List.isEmpty_iff]
  exact List.eq_nil_of_length_eq_zero (by omega)
theorem docIsMotion_any (c : UInt8) (W : World) : Calls Tryd.prog 14 #[.int .u8 c.toNat] W fun e w' => e = .returned (.bool (mot c || far c)) ∧ W = w' := by
  have h := ix_mf c
  rw [← u8_back c] at h
  rw [u8_back c] at h
  have hH := Lib.hid h
  clear h
  go_enter Tryd.func14, Tryd.ntmps14
  go_wp2_with fail
  refine (Tryd.strings_IndexByte _ _ _).mono ?_; rintro e w' ⟨rfl, rfl⟩
  rw [u8_back]
  have h3 := hH.out
  generalize hz : Lib.indexByte _ c = z
  have h4 : decide (0 ≤ z) = (mot c || far c) := by rw [← h3, ← hz]
  have h4H := Lib.hid h4
  clear hz h3 h4
  go_wp2_with fail
  go_ret
  exact ⟨ret_bool h4H.out, rfl⟩
theorem small_of {c : UInt8} : small c = decide (97 ≤ c.toNat ∧ c.toNat ≤ 122) := by
  unfold small
  apply decide_eq_decide.2
  rw [UInt8.le_iff_toNat_le, UInt8.le_iff_toNat_le]
  rfl
theorem hexd_of (c : UInt8) : hexd c = decide ((0 : Int) ≤ Dig.dig c.toNat) := of_all (p := hexd) (q := fun c => decide ((0 : Int) ≤ Dig.dig c.toNat)) (by decide +kernel) c
theorem argn_of (c : UInt8) : argn c = if c.toNat = 39 ∨ c.toNat = 109 ∨ c.toNat = 113 ∨ c.toNat = 64 then 1 else if c.toNat = 102 ∨ c.toNat = 114 then 2 else 0 := by
  have : ∀ n : Fin 256, argn n.val.toUInt8 = if n.val = 39 ∨ n.val = 109 ∨ n.val = 113 ∨ n.val = 64 then 1 else if n.val = 102 ∨ n.val = 114 then 2 else 0 := by decide +kernel
  have h := this ⟨c.toNat, u8_lt c⟩
  simp only at h
  rw [show c.toNat.toUInt8 = c from UInt8.ofNat_toNat] at h
  exact h
def T1 (s : ByteArray) : Bool := decide ((lst s).length = 1) && (lst s).all (okA 1)
def T2 (s : ByteArray) : Bool := decide ((lst s).length = 2) && (lst s).all (okA 2)
theorem lst_one (s : ByteArray) (h : s.size = 1) : lst s = [s[0]] := by
  rw [lst_cons s (by omega), lst_nil (by rw [lst_tail_size s (by omega)]; omega)]
theorem lst_two (s : ByteArray) (h : s.size = 2) : lst s = [s[0], s[1]] := by
  unfold lst
  apply List.ext_getElem
  · exact h
  · intro i h1 h2
    have : i = 0 ∨ i = 1 := by simp at h2; omega
    rcases this with rfl | rfl <;> rfl
theorem T1_no (s : ByteArray) (h : s.size ≠ 1) : T1 s = false := by unfold T1; rw [lst_len, decide_eq_false h]; rfl
theorem T2_no (s : ByteArray) (h : s.size ≠ 2) : T2 s = false := by unfold T2; rw [lst_len, decide_eq_false h]; rfl
theorem T1_one (s : ByteArray) (h : s.size = 1) : T1 s = decide (97 ≤ s[0].toNat ∧ s[0].toNat ≤ 122) := by
  unfold T1; rw [lst_one s h]; simp [okA, small_of]
theorem T2_two (s : ByteArray) (h : s.size = 2) : T2 s = (decide ((0 : Int) ≤ Dig.dig s[0].toNat) && decide ((0 : Int) ≤ Dig.dig s[1].toNat)) := by
  unfold T2; rw [lst_two s h]; simp [okA, hexd_of]
set_option maxRecDepth 100000 in
theorem tail1 (n : Nat) (hn : n = 39 ∨ n = 109 ∨ n = 113 ∨ n = 64) (s : ByteArray) (W : World) : Calls Tryd.prog 27 #[.int .u8 n, .string s] W fun e w' => e = .returned (.bool (T1 s)) ∧ Below W.heap.size W w' := by
  by_cases h : s.size = 1
  · rw [T1_one s h]
    have b0 : (0 : Nat) < s.size := by omega
    have hb : ((s.size : Int) == 1) = true := by rw [beq_iff_eq]; omega
    rcases (show (97 ≤ s[0].toNat ∧ s[0].toNat ≤ 122) ∨ s[0].toNat < 97 ∨ 122 < s[0].toNat by omega) with ⟨h1, h2⟩ | h1 | h1
    · rw [decide_eq_true (show 97 ≤ s[0].toNat ∧ s[0].toNat ≤ 122 from ⟨h1, h2⟩)]
      clear h
      rcases hn with rfl | rfl | rfl | rfl
      all_goals
        go_enter Tryd.func27, Tryd.ntmps27
        go_wp2_with fail
        go_ret
        exact ⟨ret_bool (by first | rfl | exact decide_eq_true (by omega)), Below.refl _ _⟩
    · rw [decide_eq_false (show ¬ (97 ≤ s[0].toNat ∧ s[0].toNat ≤ 122) by omega)]
      clear h
      rcases hn with rfl | rfl | rfl | rfl
      all_goals
        go_enter Tryd.func27, Tryd.ntmps27
        go_wp2_with fail
        go_ret
        exact ⟨ret_bool (by first | rfl | exact decide_eq_false (by omega)), Below.refl _ _⟩
    · rw [decide_eq_false (show ¬ (97 ≤ s[0].toNat ∧ s[0].toNat ≤ 122) by omega)]
      have h0 : 97 ≤ s[0].toNat := by omega
      clear h
      rcases hn with rfl | rfl | rfl | rfl
      all_goals
        go_enter Tryd.func27, Tryd.ntmps27
        go_wp2_with fail
        go_ret
        exact ⟨ret_bool (by first | rfl | exact decide_eq_false (by omega)), Below.refl _ _⟩
  · rw [T1_no s h]
    have hb : ((s.size : Int) == 1) = false := by rw [beq_eq_false_iff_ne]; omega
    clear h
    rcases hn with rfl | rfl | rfl | rfl
    all_goals
      go_enter Tryd.func27, Tryd.ntmps27
      go_wp2_with fail
      go_ret
      exact ⟨rfl, Below.refl _ _⟩
set_option maxRecDepth 100000 in
theorem tail2 (n : Nat) (hn : n = 102 ∨ n = 114) (s : ByteArray) (W : World) : Calls Tryd.prog 27 #[.int .u8 n, .string s] W fun e w' => e = .returned (.bool (T2 s)) ∧ Below W.heap.size W w' := by
  by_cases h : s.size = 2
  · rw [T2_two s h]
    have b0 : (0 : Nat) < s.size := by omega
    have b1 : (1 : Nat) < s.size := by omega
    have hb : ((s.size : Int) == 2) = true := by rw [beq_iff_eq]; omega
    have D0 := Lib.hid (Dig.docDigit_any s[0].toNat (by omega) (by have := u8_lt s[0]; omega))
    have D1 := Lib.hid (Dig.docDigit_any s[1].toNat (by omega) (by have := u8_lt s[1]; omega))
    generalize Dig.dig s[0].toNat = d0 at *
    generalize Dig.dig s[1].toNat = d1 at *
    by_cases h0 : 0 ≤ d0
    · rw [decide_eq_true h0, Bool.true_and]
      clear h
      rcases hn with rfl | rfl
      all_goals
        go_enter Tryd.func27, Tryd.ntmps27
        go_wp2_with fail
        refine (D0.out _).mono ?_; rintro e w1 ⟨rfl, g1⟩
        have G1 := Lib.hid g1
        clear g1
        go_wp2_with fail
        refine (D1.out _).mono ?_; rintro e w2 ⟨rfl, g2⟩
        have G2 := Lib.hid (G1.out.trans (g2.mono G1.out.size))
        clear g2
        go_wp2_with fail
        go_ret
        exact ⟨rfl, G2.out⟩
    · rw [decide_eq_false h0, Bool.false_and]
      have h1 : d0 < 0 := by omega
      clear h h0
      rcases hn with rfl | rfl
      all_goals
        go_enter Tryd.func27, Tryd.ntmps27
        go_wp2_with fail
        refine (D0.out _).mono ?_; rintro e w1 ⟨rfl, g1⟩
        have G1 := Lib.hid g1
        clear g1
        go_wp2_with fail
        go_ret
        exact ⟨ret_bool (by first | rfl | exact decide_eq_false (by omega)), G1.out⟩
  · rw [T2_no s h]
    have hb : ((s.size : Int) == 2) = false := by rw [beq_eq_false_iff_ne]; omega
    clear h
    rcases hn with rfl | rfl
    all_goals
      go_enter Tryd.func27, Tryd.ntmps27
      go_wp2_with fail
      go_ret
      exact ⟨rfl, Below.refl _ _⟩
set_option maxRecDepth 100000 in
theorem tail0 (n : Nat) (hn : ¬ (n = 39 ∨ n = 109 ∨ n = 113 ∨ n = 64)) (hm : ¬ (n = 102 ∨ n = 114)) (s : ByteArray) (W : World) : Calls Tryd.prog 27 #[.int .u8 n, .string s] W fun e w' => e = .returned (.bool (decide (s.size = 0))) ∧ Below W.heap.size W w' := by
  have a1 : ((n : Int) == 39) = false := by rw [beq_eq_false_iff_ne]; omega
  have a2 : ((n : Int) == 109) = false := by rw [beq_eq_false_iff_ne]; omega
  have a3 : ((n : Int) == 113) = false := by rw [beq_eq_false_iff_ne]; omega
  have a4 : ((n : Int) == 64) = false := by rw [beq_eq_false_iff_ne]; omega
  have a5 : ((n : Int) == 102) = false := by rw [beq_eq_false_iff_ne]; omega
  have a6 : ((n : Int) == 114) = false := by rw [beq_eq_false_iff_ne]; omega
  clear hn hm
  by_cases h : s.size = 0
  · rw [decide_eq_true h]
    have hz := str_none s h
    clear h
    go_enter Tryd.func27, Tryd.ntmps27
    go_wp2_with fail
    go_ret
    exact ⟨rfl, Below.refl _ _⟩
  · rw [decide_eq_false h]
    have hz := str_full s (by omega)
    clear h
    go_enter Tryd.func27, Tryd.ntmps27
    go_wp2_with fail
    go_ret
    exact ⟨rfl, Below.refl _ _⟩
theorem docTail_any (key : UInt8) (s : ByteArray) (W : World) : Calls Tryd.prog 27 #[.int .u8 key.toNat, .string s] W fun e w' => e = .returned (.bool (tl key (lst s))) ∧ Below W.heap.size W w' := by
  unfold tl
  rw [argn_of]
  by_cases h1 : key.toNat = 39 ∨ key.toNat = 109 ∨ key.toNat = 113 ∨ key.toNat = 64
  · rw [if_pos h1]
    exact tail1 _ h1 s W
  · rw [if_neg h1]
    by_cases h2 : key.toNat = 102 ∨ key.toNat = 114
    · rw [if_pos h2]
      exact tail2 _ h2 s W
    · rw [if_neg h2]
      refine (tail0 _ h1 h2 s W).mono fun e w' ⟨e1, e2⟩ => ⟨?_, e2⟩
      rw [e1]
      apply ret_bool
      rw [lst_len]
      by_cases h : s.size = 0
      · rw [lst_nil (by omega)]; simp
      · rw [decide_eq_false h]; rfl
end Go.Proofs.YtgkmjkjcdjkffaaDoor.Key
