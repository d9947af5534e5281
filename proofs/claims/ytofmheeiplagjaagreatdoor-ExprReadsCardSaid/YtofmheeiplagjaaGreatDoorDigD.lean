/-
  PROVED HERE: contracts of the document's DigitsPrint, and of both where they refuse. Conditions: as each theorem states.
-/
import Derived.Test.YtofmheeiplagjaaGreatDoorDigA
import Derived.Test.YtofmheeiplagjaaGreatDoorDigC
import Derived.Test.YtofmheeiplagjaaGreatDoorErrB
namespace Go.Proofs.YtofmheeiplagjaaGreatDoor.Dig
open Go.RowKit

/-- The figures of a number as a text. -/
def sle (n b k : Nat) : ByteArray := ⟨(le n b k).reverse.toArray⟩
theorem sle_size (n b k : Nat) : (sle n b k).size = k := by
  show (le n b k).reverse.toArray.size = k
  simp [le_len]
theorem sle_zero (n b : Nat) : sle n b 0 = ⟨#[]⟩ := by simp [sle, le]
theorem sle_succ (n b k : Nat) : sle n b (k + 1) = ⟨#[fig (n / b ^ k % b)]⟩ ++ sle n b k := by
  apply ByteArray.ext
  simp [sle, le_succ, ByteArray.data_append]
theorem fig_slice : ∀ d : Fin 16, ((⟨#[48, 49, 50, 51, 52, 53, 54, 55, 56, 57, 97, 98, 99, 100, 101, 102]⟩ : ByteArray).extract d.val 16).extract 0 1 = ⟨#[fig d.val]⟩ := by decide +kernel

set_option maxRecDepth 100000 in
set_option maxHeartbeats 800000 in
theorem docPrint_yes (x b w : Nat) (hx : x < 18446744073709551616) (hb : 2 ≤ b ∧ b ≤ 16) (hw : w ≤ 64) (W : World) :
    Calls Tryz.prog 38 #[.int .u64 x, .int .i64 b, .int .i64 w] W fun e w' => e = .returned (.tuple #[.string (sle x b (cnt x b w)), .int .i64 0]) ∧ Below W.heap.size W w' := by
  obtain ⟨hb1, hb2⟩ := hb
  go_enter Tryz.func38, Tryz.ntmps38
  go_wp2_with fail
  refine (Ref.within_yes _ _ _ (by omega) (by omega) _).mono ?_; rintro e w' ⟨rfl, rfl⟩
  go_wp2_with fail
  refine (Ref.within_yes _ _ _ (by omega) (by omega) _).mono ?_; rintro e w' ⟨rfl, rfl⟩
  go_wp2_with fail
  go_loop [0, 8] (fun n v => ∃ k q : Nat, k ≤ 64 ∧ n = .int .u64 q ∧ v = .string (sle x b k) ∧ Hid (q = x / b ^ k) ∧ Hid (∀ i, i < k → enough x b 0 i = false)) (fun _ v => match v with | .string s => 65 - s.size | _ => 0)
  case atStart => exact ⟨0, x, by omega, rfl, by rw [sle_zero], Lib.hid (by simp), Lib.hid (fun i hi => by omega)⟩
  case round =>
    obtain ⟨k, q, hk, rfl, rfl, hq, hl⟩ := hrel
    have hq64 : q < 18446744073709551616 := Nat.lt_of_le_of_lt (by rw [hq.out]; exact Nat.div_le_self _ _) hx
    have hd : q % b < 16 := Nat.lt_of_lt_of_le (Nat.mod_lt _ (by omega)) hb2
    have hdig := Lib.hid (fig_slice ⟨q % b, hd⟩)
    have hsz := sle_size x b k
    have hsz2 : (sle x b k).size ≤ 64 := by omega
    have hszH := Lib.hid hsz
    have hsu := Lib.hid (sle_succ x b k)
    clear hsz
    have i1 : (0 : Int) ≤ (q : Int) % (b : Int) := by rw [← Int.natCast_emod]; omega
    have i2 : (q : Int) % (b : Int) < 16 := by rw [← Int.natCast_emod]; omega
    have i3 : (0 : Int) ≤ (q : Int) / (b : Int) := by rw [← Int.natCast_ediv]; exact Int.natCast_nonneg _
    have i4 : (q : Int) / (b : Int) < 18446744073709551616 := by
      rw [← Int.natCast_ediv]
      exact Int.ofNat_lt.2 (Nat.lt_of_le_of_lt (Nat.div_le_self q b) hq64)
    have hk64 : 0 < q → k < 64 := fun h => by
      rcases Nat.lt_or_ge k 64 with h1 | h1
      · exact h1
      · have h2 : b ^ 64 ≤ b ^ k := Nat.pow_le_pow_right (by omega) h1
        have h3 : 2 ^ 64 ≤ b ^ 64 := Nat.pow_le_pow_left hb1 64
        have h4 : x < b ^ k := by omega
        have h5 := hq.out
        rw [Nat.div_eq_of_lt h4] at h5
        omega
    rcases (show (0 < q ∨ (q ≤ 0 ∧ k = 0)) ∨ (q ≤ 0 ∧ 1 ≤ k) by omega) with hgo | ⟨c1, c2⟩
    · have hkk : k < 64 := by omega
      have henH : Hid (enough x b 0 k = false) := by
        refine Lib.hid ?_
        unfold enough
        rw [decide_eq_false_iff_not, ← hq.out]
        omega
      rcases hgo with c1 | ⟨c1, rfl⟩
      · go_wp2_with fail
        rw [hdig.out]
        go_round
        case rel =>
          refine ⟨k + 1, q / b, by omega, congrArg (Value.int .u64) (Int.natCast_ediv q b).symm, by rw [hsu.out, ← hq.out], Lib.hid (by rw [hq.out, Nat.div_div_eq_div_mul, Nat.pow_succ]), Lib.hid (fun i hi => ?_)⟩
          rcases Nat.lt_succ_iff_lt_or_eq.1 hi with h | rfl
          · exact hl.out i h
          · exact henH.out
        case measure =>
          rw [show (⟨#[fig (q % b)]⟩ ++ sle x b k : ByteArray) = sle x b (k + 1) by rw [hsu.out, ← hq.out]]
          simp only [sle_size]
          omega
      · rw [sle_zero]
        go_wp2_with fail
        rw [hdig.out]
        go_round
        case rel =>
          refine ⟨1, q / b, by omega, congrArg (Value.int .u64) (Int.natCast_ediv q b).symm, by rw [hsu.out, ← hq.out, sle_zero], Lib.hid (by rw [hq.out, Nat.div_div_eq_div_mul]; simp), Lib.hid (fun i hi => ?_)⟩
          obtain rfl : i = 0 := by omega
          exact henH.out
        case measure =>
          simp only [ByteArray.size_append]
          have e2 : (⟨#[fig (q % b)]⟩ : ByteArray).size = 1 := rfl
          have e3 : (⟨#[]⟩ : ByteArray).size = 0 := rfl
          omega
    · have e1 := str_full (sle x b k) (by rw [hszH.out]; exact c2)
      clear i1 i2 i3 i4
      go_wp2_with fail
      go_loop [8] (fun v => ∃ j : Nat, j ≤ 64 ∧ v = .string (sle x b j) ∧ k ≤ j ∧ Hid (k = j ∨ j ≤ w)) (fun v => match v with | .string s => 65 - s.size | _ => 0)
      case atStart => exact ⟨k, hk, rfl, Nat.le_refl _, Lib.hid (.inl rfl)⟩
      case round =>
        obtain ⟨j, hj, rfl, hkj, hjw⟩ := hrel
        have hjz : (sle x b j).size ≤ 64 := by rw [sle_size]; exact hj
        have hjH := Lib.hid (sle_size x b j)
        have hju := Lib.hid (sle_succ x b j)
        clear hsz2
        have hz0 : Hid (x / b ^ j = 0) := Lib.hid (by
          have h1 : b ^ k ≤ b ^ j := Nat.pow_le_pow_right (by omega) hkj
          have h5 := hq.out
          have h2 : x < b ^ k := by
            have h3 : 0 < b ^ k := Nat.pow_pos (by omega)
            rw [show q = 0 by omega] at h5
            rcases Nat.lt_or_ge x (b ^ k) with h | h
            · exact h
            · have := Nat.div_pos h h3
              omega
          exact Nat.div_eq_of_lt (by omega))
        by_cases c3 : (sle x b j).size < w
        · have hjl : j < w := by rw [hjH.out] at c3; exact c3
          go_wp2_with fail
          go_round
          case rel => exact ⟨j + 1, by omega, by rw [hju.out, hz0.out, Nat.zero_mod]; rfl, by omega, Lib.hid (by omega)⟩
          case measure =>
            simp only [ByteArray.size_append, hjH.out]
            have : (⟨#[48]⟩ : ByteArray).size = 1 := rfl
            omega
        · have hwj : w ≤ j := by rw [hjH.out] at c3; omega
          have hcnt : Hid (cnt x b w = j) := Lib.hid (cnt_is x b w j hj (by unfold enough; rw [decide_eq_true_iff, hz0.out]; omega) (fun i hi => by
            rcases Nat.lt_or_ge i k with h | h
            · have := hl.out i h
              unfold enough at this ⊢
              rw [decide_eq_false_iff_not] at this ⊢
              omega
            · unfold enough
              rw [decide_eq_false_iff_not]
              have := hjw.out
              omega))
          go_wp2_with fail
          go_ret2
          exact ⟨by rw [hcnt.out]; rfl, Below.refl _ _⟩
theorem print_arg (x b w : Int) (h : b < 2 ∨ 16 < b) (W : World) :
    Calls Tryz.prog 35 #[.int .u64 x, .int .i64 b, .int .i64 w] W fun e w' => e = .returned (.tuple #[.string ⟨#[]⟩, .iface 25 (.int .i64 1)]) ∧ Below W.heap.size W w' := by
  rcases h with h | h
  · go_enter Tryz.func35, Tryz.ntmps35
    go_wp2_with fail
    go_ret2
    exact ⟨rfl, Below.refl _ _⟩
  · have h2 : ¬ b < 2 := by omega
    go_enter Tryz.func35, Tryz.ntmps35
    go_wp2_with fail
    go_ret2
    exact ⟨rfl, Below.refl _ _⟩
theorem print_range (x b w : Int) (h : 2 ≤ b ∧ b ≤ 16) (h2 : w < 0 ∨ 64 < w) (W : World) :
    Calls Tryz.prog 35 #[.int .u64 x, .int .i64 b, .int .i64 w] W fun e w' => e = .returned (.tuple #[.string ⟨#[]⟩, .iface 25 (.int .i64 2)]) ∧ Below W.heap.size W w' := by
  obtain ⟨b1, b2⟩ := h
  rcases h2 with h | h
  · go_enter Tryz.func35, Tryz.ntmps35
    go_wp2_with fail
    go_ret2
    exact ⟨rfl, Below.refl _ _⟩
  · have h2 : ¬ w < 0 := by omega
    go_enter Tryz.func35, Tryz.ntmps35
    go_wp2_with fail
    go_ret2
    exact ⟨rfl, Below.refl _ _⟩
theorem docPrint_arg (x b w : Int) (h : b < 2 ∨ 16 < b) (W : World) :
    Calls Tryz.prog 38 #[.int .u64 x, .int .i64 b, .int .i64 w] W fun e w' => e = .returned (.tuple #[.string ⟨#[]⟩, .int .i64 1]) ∧ Below W.heap.size W w' := by
  go_enter Tryz.func38, Tryz.ntmps38
  go_wp2_with fail
  refine (Ref.within_no _ _ _ h _).mono ?_; rintro e w' ⟨rfl, rfl⟩
  go_wp2_with fail
  go_ret2
  exact ⟨rfl, Below.refl _ _⟩
theorem docPrint_range (x b w : Int) (h : 2 ≤ b ∧ b ≤ 16) (h2 : w < 0 ∨ 64 < w) (W : World) :
    Calls Tryz.prog 38 #[.int .u64 x, .int .i64 b, .int .i64 w] W fun e w' => e = .returned (.tuple #[.string ⟨#[]⟩, .int .i64 2]) ∧ Below W.heap.size W w' := by
  go_enter Tryz.func38, Tryz.ntmps38
  go_wp2_with fail
  refine (Ref.within_yes _ _ _ h.1 h.2 _).mono ?_; rintro e w' ⟨rfl, rfl⟩
  go_wp2_with fail
  refine (Ref.within_no _ _ _ h2 _).mono ?_; rintro e w' ⟨rfl, rfl⟩
  go_wp2_with fail
  go_ret2
  exact ⟨rfl, Below.refl _ _⟩

end Go.Proofs.YtofmheeiplagjaaGreatDoor.Dig
