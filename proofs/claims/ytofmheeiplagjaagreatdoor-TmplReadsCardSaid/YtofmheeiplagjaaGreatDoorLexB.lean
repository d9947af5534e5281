/-
  PROVED HERE: the contracts of the functions about single bytes, of lex and of the document. Conditions: as each theorem states.
-/
import Derived.Test.YtofmheeiplagjaaGreatDoorRows
import Derived.Test.YtofmheeiplagjaaGreatDoorShelf
import Derived.Test.YtofmheeiplagjaaGreatDoorLexA
import Derived.Test.YtofmheeiplagjaaGreatDoorOwn
namespace Go.Proofs.YtofmheeiplagjaaGreatDoor.Lex
open Go.RowKit
def lst (u : ByteArray) : List UInt8 := u.data.toList
theorem lst_len (u : ByteArray) : (lst u).length = u.size := rfl
theorem lst_cons (u : ByteArray) (h : 0 < u.size) : lst u = u[0] :: lst (u.extract 1 u.size) := by
  unfold lst
  rw [ByteArray.data_extract]
  have h1 : 0 < u.data.toList.length := h
  have e : u.data.toList = u.data.toList[0] :: u.data.toList.drop 1 := by
    rw [← List.drop_eq_getElem_cons h1]; rfl
  have e2 : (u.data.extract 1 u.size).toList = u.data.toList.drop 1 := by
    rw [Array.toList_extract, List.extract_eq_take_drop]
    rw [List.take_of_length_le (by rw [List.length_drop]; exact Nat.le_refl _)]
  rw [e2]
  exact e
theorem lst_nil {u : ByteArray} (h : ¬ 0 < u.size) : lst u = [] := List.eq_nil_of_length_eq_zero (by rw [lst_len]; omega)
theorem lst_drop (u : ByteArray) (k : Nat) : lst (u.extract k u.size) = (lst u).drop k := by
  unfold lst
  rw [ByteArray.data_extract, Array.toList_extract, List.extract_eq_take_drop]
  exact List.take_of_length_le (by rw [List.length_drop]; exact Nat.le_refl _)
theorem lst_at (u : ByteArray) (k : Nat) (h : k < u.size) : (lst u).drop k = u[k] :: (lst u).drop (k + 1) := by
  have h1 : k < (lst u).length := h
  rw [List.drop_eq_getElem_cons h1]
  rfl
theorem u8_lt (c : UInt8) : c.toNat < 256 := UInt8.toNat_lt c
theorem str_none (s : ByteArray) (h : s.size = 0) : s.toList.isEmpty = true := by
  rw [ByteArray.toList_eq]
  have e : s.data.toList.length = s.size := rfl
  rw [List.isEmpty_iff]
  exact List.eq_nil_of_length_eq_zero (by omega)
theorem of_all {p q : UInt8 → Bool} (h : ∀ n : Fin 256, p n.val.toUInt8 = q n.val.toUInt8) (c : UInt8) : p c = q c := by
  have := h ⟨c.toNat, u8_lt c⟩
  simpa using this
theorem byte_eq (n : Nat) (m : Int) (h : (n : Int) = m) : ((n : Int) == m) = true := by rw [beq_iff_eq]; exact h
theorem byte_ne (n : Nat) (m : Int) (h : (n : Int) ≠ m) : ((n : Int) == m) = false := by rw [beq_eq_false_iff_ne]; exact h
theorem ltr_of (c : UInt8) : ltr c = (decide (c.toNat = 95) || decide (97 ≤ c.toNat ∧ c.toNat ≤ 122) || decide (65 ≤ c.toNat ∧ c.toNat ≤ 90)) :=
  of_all (p := ltr) (q := fun c => decide (c.toNat = 95) || decide (97 ≤ c.toNat ∧ c.toNat ≤ 122) || decide (65 ≤ c.toNat ∧ c.toNat ≤ 90)) (by decide +kernel) c
theorem dgt_of (c : UInt8) : dgt c = decide (48 ≤ c.toNat ∧ c.toNat ≤ 57) := of_all (p := dgt) (q := fun c => decide (48 ≤ c.toNat ∧ c.toNat ≤ 57)) (by decide +kernel) c
set_option maxRecDepth 100000 in
theorem letter_any (c : UInt8) (W : World) : Calls Tryz.prog 84 #[.int .u8 c.toNat] W fun e w' => e = .returned (.bool (ltr c)) ∧ W = w' := by
  rw [ltr_of]
  have hc := u8_lt c
  generalize c.toNat = n at *
  rcases (show (0 ≤ n ∧ n ≤ 64) ∨ (65 ≤ n ∧ n ≤ 90) ∨ (91 ≤ n ∧ n ≤ 94) ∨ (95 ≤ n ∧ n ≤ 95) ∨ (96 ≤ n ∧ n ≤ 96) ∨ (97 ≤ n ∧ n ≤ 122) ∨ (123 ≤ n ∧ n ≤ 255) by omega) with ⟨h1, h2⟩ | ⟨h1, h2⟩ | ⟨h1, h2⟩ | ⟨h1, h2⟩ | ⟨h1, h2⟩ | ⟨h1, h2⟩ | ⟨h1, h2⟩
  · have b95 := byte_ne n 95 (by omega)
    rw [show (decide (n = 95) || decide (97 ≤ n ∧ n ≤ 122) || decide (65 ≤ n ∧ n ≤ 90)) = false by rw [decide_eq_false (show ¬ n = 95 by omega), decide_eq_false (show ¬ (97 ≤ n ∧ n ≤ 122) by omega), decide_eq_false (show ¬ (65 ≤ n ∧ n ≤ 90) by omega)]; rfl]
    go_enter Tryz.func84, Tryz.ntmps84
    go_wp2_with fail
    go_ret
    exact ⟨ret_bool (by first | rfl | exact decide_eq_true (by omega) | exact decide_eq_false (by omega) | (simp; omega)), rfl⟩
  · have b95 := byte_ne n 95 (by omega)
    rw [show (decide (n = 95) || decide (97 ≤ n ∧ n ≤ 122) || decide (65 ≤ n ∧ n ≤ 90)) = true by simp; omega]
    go_enter Tryz.func84, Tryz.ntmps84
    go_wp2_with fail
    go_ret
    exact ⟨ret_bool (by first | rfl | exact decide_eq_true (by omega) | exact decide_eq_false (by omega) | (simp; omega)), rfl⟩
  · have b95 := byte_ne n 95 (by omega)
    rw [show (decide (n = 95) || decide (97 ≤ n ∧ n ≤ 122) || decide (65 ≤ n ∧ n ≤ 90)) = false by rw [decide_eq_false (show ¬ n = 95 by omega), decide_eq_false (show ¬ (97 ≤ n ∧ n ≤ 122) by omega), decide_eq_false (show ¬ (65 ≤ n ∧ n ≤ 90) by omega)]; rfl]
    go_enter Tryz.func84, Tryz.ntmps84
    go_wp2_with fail
    go_ret
    exact ⟨ret_bool (by first | rfl | exact decide_eq_true (by omega) | exact decide_eq_false (by omega) | (simp; omega)), rfl⟩
  · have b95 := byte_eq n 95 (by omega)
    rw [show (decide (n = 95) || decide (97 ≤ n ∧ n ≤ 122) || decide (65 ≤ n ∧ n ≤ 90)) = true by simp; omega]
    go_enter Tryz.func84, Tryz.ntmps84
    go_wp2_with fail
    go_ret
    exact ⟨ret_bool (by first | rfl | exact decide_eq_true (by omega) | exact decide_eq_false (by omega) | (simp; omega)), rfl⟩
  · have b95 := byte_ne n 95 (by omega)
    rw [show (decide (n = 95) || decide (97 ≤ n ∧ n ≤ 122) || decide (65 ≤ n ∧ n ≤ 90)) = false by rw [decide_eq_false (show ¬ n = 95 by omega), decide_eq_false (show ¬ (97 ≤ n ∧ n ≤ 122) by omega), decide_eq_false (show ¬ (65 ≤ n ∧ n ≤ 90) by omega)]; rfl]
    go_enter Tryz.func84, Tryz.ntmps84
    go_wp2_with fail
    go_ret
    exact ⟨ret_bool (by first | rfl | exact decide_eq_true (by omega) | exact decide_eq_false (by omega) | (simp; omega)), rfl⟩
  · have b95 := byte_ne n 95 (by omega)
    rw [show (decide (n = 95) || decide (97 ≤ n ∧ n ≤ 122) || decide (65 ≤ n ∧ n ≤ 90)) = true by simp; omega]
    go_enter Tryz.func84, Tryz.ntmps84
    go_wp2_with fail
    go_ret
    exact ⟨ret_bool (by first | rfl | exact decide_eq_true (by omega) | exact decide_eq_false (by omega) | (simp; omega)), rfl⟩
  · have b95 := byte_ne n 95 (by omega)
    rw [show (decide (n = 95) || decide (97 ≤ n ∧ n ≤ 122) || decide (65 ≤ n ∧ n ≤ 90)) = false by rw [decide_eq_false (show ¬ n = 95 by omega), decide_eq_false (show ¬ (97 ≤ n ∧ n ≤ 122) by omega), decide_eq_false (show ¬ (65 ≤ n ∧ n ≤ 90) by omega)]; rfl]
    go_enter Tryz.func84, Tryz.ntmps84
    go_wp2_with fail
    go_ret
    exact ⟨ret_bool (by first | rfl | exact decide_eq_true (by omega) | exact decide_eq_false (by omega) | (simp; omega)), rfl⟩
set_option maxRecDepth 100000 in
theorem docLetter_any (c : UInt8) (W : World) : Calls Tryz.prog 74 #[.int .u8 c.toNat] W fun e w' => e = .returned (.bool (ltr c)) ∧ W = w' := by
  rw [ltr_of]
  have hc := u8_lt c
  generalize c.toNat = n at *
  rcases (show (0 ≤ n ∧ n ≤ 64) ∨ (65 ≤ n ∧ n ≤ 90) ∨ (91 ≤ n ∧ n ≤ 94) ∨ (95 ≤ n ∧ n ≤ 95) ∨ (96 ≤ n ∧ n ≤ 96) ∨ (97 ≤ n ∧ n ≤ 122) ∨ (123 ≤ n ∧ n ≤ 255) by omega) with ⟨h1, h2⟩ | ⟨h1, h2⟩ | ⟨h1, h2⟩ | ⟨h1, h2⟩ | ⟨h1, h2⟩ | ⟨h1, h2⟩ | ⟨h1, h2⟩
  · have b95 := byte_ne n 95 (by omega)
    rw [show (decide (n = 95) || decide (97 ≤ n ∧ n ≤ 122) || decide (65 ≤ n ∧ n ≤ 90)) = false by rw [decide_eq_false (show ¬ n = 95 by omega), decide_eq_false (show ¬ (97 ≤ n ∧ n ≤ 122) by omega), decide_eq_false (show ¬ (65 ≤ n ∧ n ≤ 90) by omega)]; rfl]
    go_enter Tryz.func74, Tryz.ntmps74
    go_wp2_with fail
    go_ret
    exact ⟨ret_bool (by first | rfl | exact decide_eq_true (by omega) | exact decide_eq_false (by omega) | (simp; omega)), rfl⟩
  · have b95 := byte_ne n 95 (by omega)
    rw [show (decide (n = 95) || decide (97 ≤ n ∧ n ≤ 122) || decide (65 ≤ n ∧ n ≤ 90)) = true by simp; omega]
    go_enter Tryz.func74, Tryz.ntmps74
    go_wp2_with fail
    go_ret
    exact ⟨ret_bool (by first | rfl | exact decide_eq_true (by omega) | exact decide_eq_false (by omega) | (simp; omega)), rfl⟩
  · have b95 := byte_ne n 95 (by omega)
    rw [show (decide (n = 95) || decide (97 ≤ n ∧ n ≤ 122) || decide (65 ≤ n ∧ n ≤ 90)) = false by rw [decide_eq_false (show ¬ n = 95 by omega), decide_eq_false (show ¬ (97 ≤ n ∧ n ≤ 122) by omega), decide_eq_false (show ¬ (65 ≤ n ∧ n ≤ 90) by omega)]; rfl]
    go_enter Tryz.func74, Tryz.ntmps74
    go_wp2_with fail
    go_ret
    exact ⟨ret_bool (by first | rfl | exact decide_eq_true (by omega) | exact decide_eq_false (by omega) | (simp; omega)), rfl⟩
  · have b95 := byte_eq n 95 (by omega)
    rw [show (decide (n = 95) || decide (97 ≤ n ∧ n ≤ 122) || decide (65 ≤ n ∧ n ≤ 90)) = true by simp; omega]
    go_enter Tryz.func74, Tryz.ntmps74
    go_wp2_with fail
    go_ret
    exact ⟨ret_bool (by first | rfl | exact decide_eq_true (by omega) | exact decide_eq_false (by omega) | (simp; omega)), rfl⟩
  · have b95 := byte_ne n 95 (by omega)
    rw [show (decide (n = 95) || decide (97 ≤ n ∧ n ≤ 122) || decide (65 ≤ n ∧ n ≤ 90)) = false by rw [decide_eq_false (show ¬ n = 95 by omega), decide_eq_false (show ¬ (97 ≤ n ∧ n ≤ 122) by omega), decide_eq_false (show ¬ (65 ≤ n ∧ n ≤ 90) by omega)]; rfl]
    go_enter Tryz.func74, Tryz.ntmps74
    go_wp2_with fail
    go_ret
    exact ⟨ret_bool (by first | rfl | exact decide_eq_true (by omega) | exact decide_eq_false (by omega) | (simp; omega)), rfl⟩
  · have b95 := byte_ne n 95 (by omega)
    rw [show (decide (n = 95) || decide (97 ≤ n ∧ n ≤ 122) || decide (65 ≤ n ∧ n ≤ 90)) = true by simp; omega]
    go_enter Tryz.func74, Tryz.ntmps74
    go_wp2_with fail
    go_ret
    exact ⟨ret_bool (by first | rfl | exact decide_eq_true (by omega) | exact decide_eq_false (by omega) | (simp; omega)), rfl⟩
  · have b95 := byte_ne n 95 (by omega)
    rw [show (decide (n = 95) || decide (97 ≤ n ∧ n ≤ 122) || decide (65 ≤ n ∧ n ≤ 90)) = false by rw [decide_eq_false (show ¬ n = 95 by omega), decide_eq_false (show ¬ (97 ≤ n ∧ n ≤ 122) by omega), decide_eq_false (show ¬ (65 ≤ n ∧ n ≤ 90) by omega)]; rfl]
    go_enter Tryz.func74, Tryz.ntmps74
    go_wp2_with fail
    go_ret
    exact ⟨ret_bool (by first | rfl | exact decide_eq_true (by omega) | exact decide_eq_false (by omega) | (simp; omega)), rfl⟩
set_option maxRecDepth 100000 in
theorem digit_any (c : UInt8) (W : World) : Calls Tryz.prog 94 #[.int .u8 c.toNat] W fun e w' => e = .returned (.bool (dgt c)) ∧ W = w' := by
  rw [dgt_of]
  have hc := u8_lt c
  generalize c.toNat = n at *
  rcases (show (0 ≤ n ∧ n ≤ 47) ∨ (48 ≤ n ∧ n ≤ 57) ∨ (58 ≤ n ∧ n ≤ 255) by omega) with ⟨h1, h2⟩ | ⟨h1, h2⟩ | ⟨h1, h2⟩
  · skip
    rw [show (decide (48 ≤ n ∧ n ≤ 57)) = false by simp; omega]
    go_enter Tryz.func94, Tryz.ntmps94
    go_wp2_with fail
    go_ret
    exact ⟨ret_bool (by first | rfl | exact decide_eq_true (by omega) | exact decide_eq_false (by omega) | (simp; omega)), rfl⟩
  · skip
    rw [show (decide (48 ≤ n ∧ n ≤ 57)) = true by simp; omega]
    go_enter Tryz.func94, Tryz.ntmps94
    go_wp2_with fail
    go_ret
    exact ⟨ret_bool (by first | rfl | exact decide_eq_true (by omega) | exact decide_eq_false (by omega) | (simp; omega)), rfl⟩
  · skip
    rw [show (decide (48 ≤ n ∧ n ≤ 57)) = false by simp; omega]
    go_enter Tryz.func94, Tryz.ntmps94
    go_wp2_with fail
    go_ret
    exact ⟨ret_bool (by first | rfl | exact decide_eq_true (by omega) | exact decide_eq_false (by omega) | (simp; omega)), rfl⟩
set_option maxRecDepth 100000 in
theorem docDigit_any (c : UInt8) (W : World) : Calls Tryz.prog 75 #[.int .u8 c.toNat] W fun e w' => e = .returned (.bool (dgt c)) ∧ W = w' := by
  rw [dgt_of]
  have hc := u8_lt c
  generalize c.toNat = n at *
  rcases (show (0 ≤ n ∧ n ≤ 47) ∨ (48 ≤ n ∧ n ≤ 57) ∨ (58 ≤ n ∧ n ≤ 255) by omega) with ⟨h1, h2⟩ | ⟨h1, h2⟩ | ⟨h1, h2⟩
  · skip
    rw [show (decide (48 ≤ n ∧ n ≤ 57)) = false by simp; omega]
    go_enter Tryz.func75, Tryz.ntmps75
    go_wp2_with fail
    go_ret
    exact ⟨ret_bool (by first | rfl | exact decide_eq_true (by omega) | exact decide_eq_false (by omega) | (simp; omega)), rfl⟩
  · skip
    rw [show (decide (48 ≤ n ∧ n ≤ 57)) = true by simp; omega]
    go_enter Tryz.func75, Tryz.ntmps75
    go_wp2_with fail
    go_ret
    exact ⟨ret_bool (by first | rfl | exact decide_eq_true (by omega) | exact decide_eq_false (by omega) | (simp; omega)), rfl⟩
  · skip
    rw [show (decide (48 ≤ n ∧ n ≤ 57)) = false by simp; omega]
    go_enter Tryz.func75, Tryz.ntmps75
    go_wp2_with fail
    go_ret
    exact ⟨ret_bool (by first | rfl | exact decide_eq_true (by omega) | exact decide_eq_false (by omega) | (simp; omega)), rfl⟩
def isN (s : ByteArray) : Bool := match lst s with | [] => false | c :: _ => ltr c
theorem name_any (s : ByteArray) (W : World) : Calls Tryz.prog 66 #[.string s] W fun e w' => e = .returned (.bool (isN s)) ∧ W = w' := by
  unfold isN
  by_cases h : 0 < s.size
  · rw [lst_cons s h]
    simp only
    have hf := str_full s (by omega)
    have C := Lib.hid (letter_any s[0])
    go_enter Tryz.func66, Tryz.ntmps66
    go_wp2_with fail
    refine (C.out _).mono ?_; rintro e w' ⟨rfl, rfl⟩
    go_wp2_with fail
    go_ret
    exact ⟨rfl, rfl⟩
  · rw [lst_nil h]
    simp only
    have hf := str_none s (by omega)
    go_enter Tryz.func66, Tryz.ntmps66
    go_wp2_with fail
    go_ret
    exact ⟨rfl, rfl⟩
theorem docName_any (s : ByteArray) (W : World) : Calls Tryz.prog 61 #[.string s] W fun e w' => e = .returned (.bool (isN s)) ∧ W = w' := by
  unfold isN
  by_cases h : 0 < s.size
  · rw [lst_cons s h]
    simp only
    have hf := str_full s (by omega)
    have C := Lib.hid (docLetter_any s[0])
    go_enter Tryz.func61, Tryz.ntmps61
    go_wp2_with fail
    refine (C.out _).mono ?_; rintro e w' ⟨rfl, rfl⟩
    go_wp2_with fail
    go_ret
    exact ⟨rfl, rfl⟩
  · rw [lst_nil h]
    simp only
    have hf := str_none s (by omega)
    go_enter Tryz.func61, Tryz.ntmps61
    go_wp2_with fail
    go_ret
    exact ⟨rfl, rfl⟩
end Go.Proofs.YtofmheeiplagjaaGreatDoor.Lex
