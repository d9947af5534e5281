/-
  PROVED HERE: the contracts of the document's functions about single keys. Conditions: as each theorem states.
-/
import Derived.Test.YtgkmjkjcdjkffaaDoorKeyB
import Derived.Test.YtgkmjkjcdjkffaaDoorDigA
import Derived.Test.YtgkmjkjcdjkffaaDoorOwn
import Derived.Test.YtgkmjkjcdjkffaaDoorShelf
namespace Go.Proofs.YtgkmjkjcdjkffaaDoor.Key
open Go.RowKit
def lst (u : ByteArray) : List UInt8 := u.data.toList
theorem lst_len (u : ByteArray) : (lst u).length = u.size := rfl
theorem lst_cons (u : ByteArray) (h : 0 < u.size) : lst u = u[0] :: lst (u.extract 1 u.size) := by
  unfold lst
  rw [ByteArray.data_extract]
  have h1 : 0 < u.data.toList.length := h
  have e : u.data.toList = u.data.toList[0] :: u.data.toList.drop 1 := by
    rw [← List.drop_eq_getElem_cons h1]; rfl
  have e2 : (u.data.extract 1 u.size).toList = u.data.toList.drop 1 := by
    rw [Array.toList_extract, List.extract_eq_take_drop]
    rw [List.take_of_length_le (by rw [List.length_drop]; exact Nat.le_refl _)]
  rw [e2]
  exact e
theorem lst_tail_size (u : ByteArray) (h : 0 < u.size) : (u.extract 1 u.size).size = u.size - 1 := by rw [ByteArray.size_extract]; omega
theorem lst_nil {u : ByteArray} (h : ¬ 0 < u.size) : lst u = [] := List.eq_nil_of_length_eq_zero (by rw [lst_len]; omega)
theorem u8_back (c : UInt8) : (c.toNat : Int).toNat.toUInt8 = c := by rw [Int.toNat_natCast]; exact UInt8.ofNat_toNat
theorem u8_lt (c : UInt8) : c.toNat < 256 := UInt8.toNat_lt c
theorem of_all {p q : UInt8 → Bool} (h : ∀ n : Fin 256, p n.val.toUInt8 = q n.val.toUInt8) (c : UInt8) : p c = q c := by
  have := h ⟨c.toNat, u8_lt c⟩
  simpa using this
theorem ix_mot : ∀ c : UInt8, decide (0 ≤ Lib.indexByte [104, 108, 106, 107, 48, 36, 103, 71, 119, 98, 110, 78, 91, 93] c) = mot c := of_all (by decide +kernel)
theorem ix_far : ∀ c : UInt8, decide (0 ≤ Lib.indexByte [39, 102] c) = far c := of_all (by decide +kernel)
theorem ix_alone : ∀ c : UInt8, decide (0 ≤ Lib.indexByte [120, 112, 80, 105, 97, 82, 117, 118, 85, 46, 126, 18, 58, 47] c) = alone c := of_all (by decide +kernel)
theorem ix_letter : ∀ c : UInt8, decide (0 ≤ Lib.indexByte [109, 113, 64] c) = letter c := of_all (by decide +kernel)
theorem ix_pair : ∀ c : UInt8, decide (0 ≤ Lib.indexByte [114] c) = pair c := of_all (by decide +kernel)
theorem ix_dyc : ∀ c : UInt8, decide (0 ≤ Lib.indexByte [100, 121, 99] c) = dyc c := of_all (by decide +kernel)
theorem ix_fr : ∀ c : UInt8, decide (0 ≤ Lib.indexByte [102, 114] c) = fr c := of_all (by decide +kernel)
theorem ix_mf : ∀ c : UInt8, decide (0 ≤ Lib.indexByte [104, 108, 106, 107, 48, 36, 103, 71, 119, 98, 110, 78, 91, 93, 39, 102] c) = (mot c || far c) := of_all (by decide +kernel)
theorem ix_rest : ∀ c : UInt8, decide (0 ≤ Lib.indexByte [120, 112, 80, 105, 97, 82, 117, 118, 85, 46, 126, 58, 47, 18, 109, 113, 64, 114] c) = (alone c || letter c || pair c) := of_all (by decide +kernel)
theorem docIsDigit_yes (c : UInt8) (h1 : 48 ≤ c.toNat) (h2 : c.toNat ≤ 57) (W : World) : Calls Tryd.prog 35 #[.int .u8 c.toNat] W fun e w' => e = .returned (.bool true) ∧ W = w' := by
  go_enter Tryd.func35, Tryd.ntmps35
  go_wp2_with fail
  go_ret
  exact ⟨ret_bool (by first | rfl | exact decide_eq_true (by omega) | exact decide_eq_false (by omega)), rfl⟩
theorem docIsDigit_no (c : UInt8) (h : c.toNat < 48 ∨ 57 < c.toNat) (W : World) : Calls Tryd.prog 35 #[.int .u8 c.toNat] W fun e w' => e = .returned (.bool false) ∧ W = w' := by
  rcases h with h | h
  all_goals
    try have h0 : 48 ≤ c.toNat := by omega
    go_enter Tryd.func35, Tryd.ntmps35
    go_wp2_with fail
    go_ret
    exact ⟨ret_bool (by first | rfl | exact decide_eq_true (by omega) | exact decide_eq_false (by omega)), rfl⟩
theorem docSmall_any (n : Nat) (h : n < 256) (W : World) : Calls Tryd.prog 34 #[.int .u8 n] W fun e w' => e = .returned (.int .u8 ((if 65 ≤ n ∧ n ≤ 90 then n + 32 else n : Nat) : Int)) ∧ W = w' := by
  rcases (show (65 ≤ n ∧ n ≤ 90) ∨ n < 65 ∨ 90 < n by omega) with ⟨h1, h2⟩ | h1 | h1
  · rw [if_pos ⟨h1, h2⟩]
    go_enter Tryd.func34, Tryd.ntmps34
    go_wp2_with fail
    go_ret
    exact ⟨by go_num, rfl⟩
  all_goals
    rw [if_neg (by omega)]
    try have h0 : 65 ≤ n := by omega
    go_enter Tryd.func34, Tryd.ntmps34
    go_wp2_with fail
    go_ret
    exact ⟨rfl, rfl⟩
def rn (c : UInt8) : Bool := c == 34 || decide (97 ≤ c.toNat ∧ c.toNat ≤ 122) || decide (65 ≤ c.toNat ∧ c.toNat ≤ 90)
set_option maxRecDepth 100000 in
theorem reg_core (n m : Nat) (hc : n < 256) (hm : (if 65 ≤ n ∧ n ≤ 90 then n + 32 else n) = m) (h34 : n ≠ 34) (W : World) : Calls Tryd.prog 25 #[.int .u8 n] W fun e w' => e = .returned (.bool (decide (97 ≤ m ∧ m ≤ 122))) ∧ W = w' := by
  have S := docSmall_any n hc
  rw [hm] at S
  have SH := Lib.hid S
  have b1 : ((n : Int) == 34) = false := by rw [beq_eq_false_iff_ne]; omega
  clear hm S h34
  rcases (show (97 ≤ m ∧ m ≤ 122) ∨ m < 97 ∨ 122 < m by omega) with ⟨h1, h2⟩ | h1 | h1
  · rw [decide_eq_true (show 97 ≤ m ∧ m ≤ 122 from ⟨h1, h2⟩)]
    go_enter Tryd.func25, Tryd.ntmps25
    go_wp2_with fail
    refine (SH.out _).mono ?_; rintro e w' ⟨rfl, rfl⟩
    go_wp2_with fail
    refine (SH.out _).mono ?_; rintro e w' ⟨rfl, rfl⟩
    go_wp2_with fail
    go_ret
    exact ⟨ret_bool (by first | rfl | exact decide_eq_true (by omega)), rfl⟩
  · rw [decide_eq_false (show ¬ (97 ≤ m ∧ m ≤ 122) by omega)]
    go_enter Tryd.func25, Tryd.ntmps25
    go_wp2_with fail
    refine (SH.out _).mono ?_; rintro e w' ⟨rfl, rfl⟩
    go_wp2_with fail
    go_ret
    exact ⟨ret_bool (by first | rfl | exact decide_eq_false (by omega)), rfl⟩
  · rw [decide_eq_false (show ¬ (97 ≤ m ∧ m ≤ 122) by omega)]
    have h0 : 97 ≤ m := by omega
    go_enter Tryd.func25, Tryd.ntmps25
    go_wp2_with fail
    refine (SH.out _).mono ?_; rintro e w' ⟨rfl, rfl⟩
    go_wp2_with fail
    refine (SH.out _).mono ?_; rintro e w' ⟨rfl, rfl⟩
    go_wp2_with fail
    go_ret
    exact ⟨ret_bool (by first | rfl | exact decide_eq_false (by omega)), rfl⟩
theorem docRegName_any (c : UInt8) (W : World) : Calls Tryd.prog 25 #[.int .u8 c.toNat] W fun e w' => e = .returned (.bool (rn c)) ∧ W = w' := by
  have hc := u8_lt c
  have ht : (c == 34) = decide (c.toNat = 34) := by
    by_cases h : c = 34
    · subst h; rfl
    · have : c.toNat ≠ 34 := fun e => h (UInt8.toNat_inj.1 e)
      rw [decide_eq_false this, beq_eq_false_iff_ne]; exact h
  unfold rn
  rw [ht]
  generalize c.toNat = n at *
  clear ht
  by_cases h : n = 34
  · subst h
    go_enter Tryd.func25, Tryd.ntmps25
    go_wp2_with fail
    go_ret
    exact ⟨rfl, rfl⟩
  · refine (reg_core n _ hc rfl h W).mono fun e w' ⟨h1, h2⟩ => ⟨?_, h2⟩
    rw [h1]
    apply ret_bool
    rw [decide_eq_false h, Bool.false_or, ← Bool.decide_or]
    apply decide_eq_decide.2
    split <;> omega
end Go.Proofs.YtgkmjkjcdjkffaaDoor.Key
