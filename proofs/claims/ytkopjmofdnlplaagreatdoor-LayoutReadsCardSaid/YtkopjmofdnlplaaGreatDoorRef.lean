/-
  PROVED HERE: contracts of the document's small helpers (within, turn, pow2, one), wherever the translation holds them. Conditions: as each theorem states.
-/
import Derived.Test.YtkopjmofdnlplaaGreatDoorRows
import Derived.Test.YtkopjmofdnlplaaGreatDoorMem
namespace Go.Proofs.YtkopjmofdnlplaaGreatDoor.Ref
open Go.RowKit

theorem within_yes (n lo hi : Int) (h1 : lo ≤ n) (h2 : n ≤ hi) (W : World) :
    Calls Tryz.prog 101 #[.int .i64 n, .int .i64 lo, .int .i64 hi] W fun e w' => e = .returned (.bool true) ∧ W = w' := by
  go_enter Tryz.func101, Tryz.ntmps101
  go_wp2
  go_ret
  exact ⟨by simp, rfl⟩
theorem within_no (n lo hi : Int) (h : n < lo ∨ hi < n) (W : World) :
    Calls Tryz.prog 101 #[.int .i64 n, .int .i64 lo, .int .i64 hi] W fun e w' => e = .returned (.bool false) ∧ W = w' := by
  rcases h with h | h
  · have hd : decide (lo ≤ n) = false := by simp; omega
    go_enter Tryz.func101, Tryz.ntmps101
    go_wp2
    go_ret
    exact ⟨by simp, rfl⟩
  · by_cases h1 : lo ≤ n
    · have hd : decide (n ≤ hi) = false := by simp; omega
      go_enter Tryz.func101, Tryz.ntmps101
      go_wp2
      go_ret
      exact ⟨by simp, rfl⟩
    · have hd : decide (lo ≤ n) = false := by simp; omega
      go_enter Tryz.func101, Tryz.ntmps101
      go_wp2
      go_ret
      exact ⟨by simp, rfl⟩
theorem within_any (n lo hi : Int) (W : World) :
    Calls Tryz.prog 101 #[.int .i64 n, .int .i64 lo, .int .i64 hi] W fun e w' => e = .returned (.bool (decide (lo ≤ n ∧ n ≤ hi))) ∧ W = w' := by
  by_cases h : lo ≤ n ∧ n ≤ hi
  · rw [decide_eq_true h]; exact within_yes n lo hi h.1 h.2 W
  · rw [decide_eq_false h]; exact within_no n lo hi (by omega) W

/-- A text the other way round. -/
def rev (s : ByteArray) : ByteArray := ⟨(s.data.toList.reverse).toArray⟩
theorem rev_size (s : ByteArray) : (rev s).size = s.size := by
  show (s.data.toList.reverse).toArray.size = s.data.size
  simp
theorem rev_at (s : ByteArray) (k : Nat) (h : k < s.size) : byteAt (rev s) k = byteAt s (s.size - 1 - k) := by
  have e : s.data.toList.length = s.size := rfl
  unfold rev
  rw [byteAt_list, byteAt, List.getElem?_reverse (by omega)]
  simp
def revTo (s : ByteArray) (k : Nat) : ByteArray := ⟨((s.data.toList.take k).reverse).toArray⟩
theorem revTo_size (s : ByteArray) (k : Nat) (h : k ≤ s.size) : (revTo s k).size = k := by
  have e : s.data.toList.length = s.size := rfl
  show ((s.data.toList.take k).reverse).toArray.size = k
  simp; omega
theorem revTo_succ (s : ByteArray) (k : Nat) (h : k < s.size) : revTo s (k + 1) = s.extract k (k + 1) ++ revTo s k := by
  have e : s.data.toList.length = s.size := rfl
  have ht : s.data.toList.take (k + 1) = s.data.toList.take k ++ [s.data[k]] := by rw [List.take_succ_eq_append_getElem (by omega)]; simp
  apply ByteArray.ext
  rw [ByteArray.data_append, ByteArray.data_extract]
  unfold revTo
  rw [ht]
  apply Array.ext'
  simp [Array.toList_extract, List.extract_eq_take_drop]
  rw [List.drop_eq_getElem_cons (by omega)]
  simp
set_option maxHeartbeats 400000 in
theorem turn_any (s : ByteArray) (hs : s.size ≤ 1000000) (w : World) :
    Calls Tryz.prog 117 #[.string s] w fun e w' => e = .returned (.string (rev s)) ∧ w = w' := by
  go_enter Tryz.func117, Tryz.ntmps117
  go_wp2
  go_loop [3, 4] (fun o i => ∃ k : Nat, k ≤ s.size ∧ i = .int .i64 k ∧ o = .string (revTo s k)) (fun _ i => s.size - (intOf i).toNat)
  case atStart => exact ⟨0, Nat.zero_le _, rfl, rfl⟩
  case round =>
    obtain ⟨k, hk, rfl, rfl⟩ := hrel
    have hz := revTo_size s k hk
    have hz2 : (revTo s k).size ≤ 1000000 := by omega
    clear hz
    by_cases hlt : k < s.size
    · have HR := Lib.hid (revTo_succ s k hlt)
      go_wp2
      go_round
      case rel => exact ⟨k + 1, by omega, by go_num, by rw [HR.out]⟩
      case measure => simp [intOf]; omega
    · obtain rfl : k = s.size := by omega
      go_wp2
      go_ret
      exact ⟨ret_string (by
        have e : s.data.toList.length = s.size := rfl
        unfold rev
        simp [revTo, List.take_of_length_le (show s.data.toList.length ≤ s.size by omega)]), rfl⟩
end Go.Proofs.YtkopjmofdnlplaaGreatDoor.Ref
