/-
  PROVED HERE: contracts of digits.Digit and of the document's Digit, over every byte. Conditions: as each theorem states.
-/
import Derived.Test.YtkopjmofdnlplaaGreatDoorRows
import Derived.Test.YtkopjmofdnlplaaGreatDoorMem
namespace Go.Proofs.YtkopjmofdnlplaaGreatDoor.Dig
open Go.RowKit

/-- What a byte is as a digit. -/
def dig (c : Int) : Int := if 48 ≤ c ∧ c ≤ 57 then c - 48 else if 97 ≤ c ∧ c ≤ 102 then c - 97 + 10 else if 65 ≤ c ∧ c ≤ 70 then c - 65 + 10 else -1
/-- The texts among which the document looks for a digit. -/
def strs : List (List UInt8) := [[48], [49], [50], [51], [52], [53], [54], [55], [56], [57], [97, 65], [98, 66], [99, 67], [100, 68], [101, 69], [102, 70]]
def str (i : Nat) : ByteArray := ⟨(strs.getD i []).toArray⟩
/-- No digit below i is c. -/
def noDig (i : Nat) (c : Nat) : Prop := (c < 48 ∨ 57 < c ∨ 48 + i ≤ c) ∧ (c < 97 ∨ 87 + i ≤ c) ∧ (c < 65 ∨ 55 + i ≤ c)
theorem dig_none (c : Nat) (h : noDig 16 c) : dig c = -1 := by
  unfold noDig at h; unfold dig
  rw [if_neg (by omega), if_neg (by omega), if_neg (by omega)]
theorem str_facts : ∀ i : Fin 16, (str i).size ≤ 2 ∧ ∀ k : Fin 2, k.val < (str i).size → dig (byteAt (str i) k : Int) = i := by decide +kernel
theorem str_all : ∀ i : Fin 16, ∀ c : Fin 256, (∀ k : Fin 2, k.val < (str i).size → byteAt (str i) k ≠ c.val) → (i.val < 10 → c.val ≠ 48 + i) ∧ (10 ≤ i.val → c.val ≠ 87 + i ∧ c.val ≠ 55 + i) := by decide +kernel
theorem str_hit (i k c : Nat) (hi : i < 16) (hk : k < (str i).size) (h : byteAt (str i) k = c) : dig (c : Int) = i := by
  have h1 := str_facts ⟨i, hi⟩
  rw [← h]
  exact h1.2 ⟨k, by have := h1.1; simp only at this; omega⟩ hk
theorem str_miss (i c : Nat) (hi : i < 16) (hc : c < 256) (hn : noDig i c) (h : ∀ k, k < (str i).size → byteAt (str i) k ≠ c) : noDig (i + 1) c := by
  have h1 := str_all ⟨i, hi⟩ ⟨c, hc⟩ (fun k hk => h k.val hk)
  simp only at h1
  unfold noDig at *
  omega
set_option maxRecDepth 100000 in
set_option maxHeartbeats 800000 in
theorem docDigit_any (c : Int) (h0 : 0 ≤ c) (h1 : c ≤ 255) (W : World) : Calls Tryz.prog 180 #[.int .u8 c] W fun e w' => e = .returned (.int .i64 (dig c)) ∧ Below W.heap.size W w' := by
  obtain ⟨d, rfl⟩ := Int.eq_ofNat_of_zero_le h0
  go_enter Tryz.func180, Tryz.ntmps180
  go_wp2_with fail
  go_loopw [8] (fun t wr => ∃ i : Nat, i ≤ 16 ∧ t = .int .i64 i ∧ noDig i d ∧ Below W.heap.size W wr ∧ (∀ j, j < 16 → wr.cell? ⟨W.heap.size, j, none⟩ = some (.string (str j)))) (fun t _ => 16 - (intOf t).toNat)
  case atStart =>
    refine ⟨0, Nat.zero_le _, rfl, by unfold noDig; omega, (Below.refl _ _).alloc (Nat.le_refl _) _, fun j hj => ?_⟩
    rw [World.cell?_alloc_new]
    rcases (show j = 0 ∨ j = 1 ∨ j = 2 ∨ j = 3 ∨ j = 4 ∨ j = 5 ∨ j = 6 ∨ j = 7 ∨ j = 8 ∨ j = 9 ∨ j = 10 ∨ j = 11 ∨ j = 12 ∨ j = 13 ∨ j = 14 ∨ j = 15 by omega) with rfl | rfl | rfl | rfl | rfl | rfl | rfl | rfl | rfl | rfl | rfl | rfl | rfl | rfl | rfl | rfl <;> rfl
  case round =>
    obtain ⟨i, hi, rfl, hn, hB, hC⟩ := hrel
    have hBH := Lib.hid hB
    have hCH := Lib.hid hC
    have hnH := Lib.hid hn
    clear hB hC hn
    by_cases hlt : i < 16
    · have hcell := hCH.out i hlt
      have hz := (str_facts ⟨i, hlt⟩).1
      simp only at hz
      have HIT := Lib.hid (fun k => str_hit i k d hlt)
      have MISS := Lib.hid (str_miss i d hlt (by omega) hnH.out)
      generalize str i = t at *
      go_wp2_with fail
      go_loop [5] (fun v => ∃ k : Nat, k ≤ t.size ∧ v = .int .i64 k ∧ ∀ j, j < k → byteAt t j ≠ d) (fun v => t.size - (intOf v).toNat)
      case atStart => exact ⟨0, Nat.zero_le _, rfl, fun j hj => by omega⟩
      case round =>
        obtain ⟨k, hk, rfl, hno⟩ := hrel
        have hnoH := Lib.hid hno
        clear hno
        by_cases hkl : k < t.size
        · have hb := Lib.hid (byteAt_eq t k hkl)
          by_cases he : byteAt t k = d
          · have e1 : ((t[k].toNat : Int) == (d : Int)) = true := by rw [hb.out, he]; simp
            have heH := Lib.hid he
            clear he
            go_wp2_with fail
            go_ret
            exact ⟨ret_int (HIT.out k hkl heH.out).symm, hBH.out⟩
          · have e1 : ((t[k].toNat : Int) == (d : Int)) = false := by rw [hb.out, beq_eq_false_iff_ne]; omega
            go_wp2_with fail
            go_round
            case rel =>
              refine ⟨k + 1, by omega, by go_num, fun j hj => ?_⟩
              rcases Nat.lt_succ_iff_lt_or_eq.1 hj with h | rfl
              · exact hnoH.out j h
              · exact he
            case measure => simp [intOf]; omega
        · have HN := Lib.hid (MISS.out (fun k' hk' => hnoH.out k' (by omega)))
          go_wp2_with fail
          go_roundw
          case rel => exact ⟨i + 1, by omega, by go_num, HN.out, hBH.out, hCH.out⟩
          case measure => simp [intOf]; omega
    · obtain rfl : i = 16 := by omega
      go_wp2_with fail
      go_ret
      exact ⟨ret_int (dig_none d hnH.out).symm, hBH.out⟩
end Go.Proofs.YtkopjmofdnlplaaGreatDoor.Dig
