/-
  PROVED HERE: contracts of real.Key, bitsOf, Up and Down. Conditions: as each theorem states.
-/
import Derived.Test.YtifnochpmlllgaaDoorRows
import Derived.Test.YtifnochpmlllgaaDoorRealC
import Derived.Test.YtifnochpmlllgaaDoorRealI
namespace Go.Proofs.YtifnochpmlllgaaDoor.Real
open Go.RowKit

def kv (N : Bool) (l : Int) : Int := if N then -l - 1 else l
theorem nat_and_top (n k : Nat) : n &&& 2 ^ k = if n / 2 ^ k % 2 = 1 then 2 ^ k else 0 := by
  apply Nat.eq_of_testBit_eq
  intro i
  rw [Nat.testBit_and, Nat.testBit_two_pow]
  by_cases h : k = i
  · subst h
    simp only [decide_true, Bool.and_true]
    rw [Nat.testBit_eq_decide_div_mod_eq]
    split <;> rename_i h <;> simp [h]
  · simp only [h, decide_false, Bool.and_false]
    split
    · rw [Nat.testBit_two_pow]; simp [h]
    · simp
theorem and_top (x : Int) (k : Nat) (h0 : 0 ≤ x) (h1 : x < 18446744073709551616) (hk : k ≤ 63) : bits .and .u64 x (((2 ^ k : Nat)) : Int) = if x / ((2 ^ k : Nat) : Int) % 2 = 1 then ((2 ^ k : Nat) : Int) else 0 := by
  obtain ⟨n, rfl⟩ := Int.eq_ofNat_of_zero_le h0
  have hp : 2 ^ k ≤ 9223372036854775808 := Nat.pow_le_pow_right (n := 2) (by omega) hk
  have h := u64_and_nat n (2 ^ k) (by omega) (by omega)
  have e : ((n : Int) / ((2 ^ k : Nat) : Int) % 2 = 1) ↔ n / 2 ^ k % 2 = 1 := by
    generalize 2 ^ k = p
    rw [show (n : Int) / (p : Int) = ((n / p : Nat) : Int) from rfl]
    omega
  rw [nat_and_top] at h
  refine h.trans ?_
  by_cases g : n / 2 ^ k % 2 = 1
  · rw [if_pos g, if_pos (e.mpr g)]
  · rw [if_neg g, if_neg (fun x => g (e.mp x))]; rfl
theorem bitsOf_up (k n : Int) (h : 0 ≤ k) (hk : k ≤ 9223372036854775807) (W : World) : Calls Tryd.prog 88 #[.int .i64 k, .int .i64 n] W fun e w' => e = .returned (.int .u64 k) ∧ W = w' := by
  have a2 : IntKind.u64.wrap k = k := by rw [IntKind.wrap_u64]; omega
  go_enter Tryd.func88, Tryd.ntmps88
  go_wp2_with fail
  go_ret
  exact ⟨rfl, rfl⟩
set_option maxRecDepth 100000 in
theorem key_no (b n : Int) (h32 : n ≠ 32) (h64 : n ≠ 64) (W : World) :
    Calls Tryd.prog 38 #[.int .u64 b, .int .i64 n] W fun e w' => e = .returned (.tuple #[.int .i64 0, .iface 23 (.int .i64 1)]) ∧ Below W.heap.size W w' := by
  have C := Lib.hid (fun W => form_no n h32 h64 W)
  clear h32 h64
  go_enter Tryd.func38, Tryd.ntmps38
  go_wp2_with fail
  refine (C.out _).mono ?_; rintro e w' ⟨rfl, hb⟩
  have hbH := Lib.hid hb
  clear hb
  go_wp2_with fail
  go_ret2
  exact ⟨rfl, hbH.out⟩

set_option maxRecDepth 100000 in
theorem key_32 (b : Int) (h0 : 0 ≤ b) (h1 : b ≤ 18446744073709551615) (W : World) :
    Calls Tryd.prog 38 #[.int .u64 b, .int .i64 32] W fun e w' => e = .returned (.tuple #[.int .i64 (kv (neg32 b) (b % 2147483648)), .nilIface]) ∧ Below W.heap.size W w' := by
  have a1 : bits .and .u64 b 2147483647 = b % 2147483648 := and_mask _ 31 (by omega) (by omega) (by omega)
  have a2 : bits .and .u64 b 2147483648 = if b / 2147483648 % 2 = 1 then 2147483648 else 0 := and_top _ 31 (by omega) (by omega) (by omega)
  have k1 : IntKind.u64.wrap 2147483648 = 2147483648 := by decide
  have k2 : IntKind.i64.wrap (b % 2147483648) = b % 2147483648 := IntWalk.i64_in _ (by omega)
  have k3 : 0 ≤ b % 2147483648 ∧ b % 2147483648 ≤ 2147483647 := by omega
  by_cases hN : b / 2147483648 % 2 = 1
  · rw [if_pos hN] at a2
    have hv : neg32 b = true := by simp [neg32, hN]
    rw [hv]
    clear hN hv
    generalize hl : b % 2147483648 = l at *
    clear hl
    have hvv : kv true l = -l - 1 := rfl
    rw [hvv]
    go_enter Tryd.func38, Tryd.ntmps38
    go_wp2_with fail
    refine (form_32 _).mono ?_; rintro e w' ⟨rfl, hb⟩
    have hbH := Lib.hid hb
    clear hb
    go_wp2_with fail
    go_ret2
    exact ⟨rfl, hbH.out⟩
  · rw [if_neg hN] at a2
    have hv : neg32 b = false := by simp [neg32, hN]
    rw [hv]
    clear hN hv
    generalize hl : b % 2147483648 = l at *
    clear hl
    have hvv : kv false l = l := rfl
    rw [hvv]
    go_enter Tryd.func38, Tryd.ntmps38
    go_wp2_with fail
    refine (form_32 _).mono ?_; rintro e w' ⟨rfl, hb⟩
    have hbH := Lib.hid hb
    clear hb
    go_wp2_with fail
    go_ret2
    exact ⟨rfl, hbH.out⟩
theorem bitsOf_dn_32 (k : Int) (h : k < 0) (hk : -2147483648 < k) (W : World) : Calls Tryd.prog 88 #[.int .i64 k, .int .i64 32] W fun e w' => e = .returned (.int .u64 (2147483648 + (-k - 1))) ∧ W = w' := by
  have a1 : bits .or .u64 (-k - 1) 2147483648 = -k - 1 + 2147483648 := or_top _ 31 (by omega) (by omega) (by omega)
  have a2 : IntKind.u64.wrap (-k - 1) = -k - 1 := by rw [IntKind.wrap_u64]; omega
  have k1 : IntKind.u64.wrap 2147483648 = 2147483648 := by decide
  rw [Int.add_comm]
  go_enter Tryd.func88, Tryd.ntmps88
  go_wp2_with fail
  go_ret
  exact ⟨rfl, rfl⟩

set_option maxRecDepth 100000 in
theorem key_64 (b : Int) (h0 : 0 ≤ b) (h1 : b ≤ 18446744073709551615) (W : World) :
    Calls Tryd.prog 38 #[.int .u64 b, .int .i64 64] W fun e w' => e = .returned (.tuple #[.int .i64 (kv (neg64 b) (b % 9223372036854775808)), .nilIface]) ∧ Below W.heap.size W w' := by
  have a1 : bits .and .u64 b 9223372036854775807 = b % 9223372036854775808 := and_mask _ 63 (by omega) (by omega) (by omega)
  have a2 : bits .and .u64 b 9223372036854775808 = if b / 9223372036854775808 % 2 = 1 then 9223372036854775808 else 0 := and_top _ 63 (by omega) (by omega) (by omega)
  have k1 : IntKind.u64.wrap 9223372036854775808 = 9223372036854775808 := by decide
  have k2 : IntKind.i64.wrap (b % 9223372036854775808) = b % 9223372036854775808 := IntWalk.i64_in _ (by omega)
  have k3 : 0 ≤ b % 9223372036854775808 ∧ b % 9223372036854775808 ≤ 9223372036854775807 := by omega
  by_cases hN : b / 9223372036854775808 % 2 = 1
  · rw [if_pos hN] at a2
    have hv : neg64 b = true := by simp [neg64, hN]
    rw [hv]
    clear hN hv
    generalize hl : b % 9223372036854775808 = l at *
    clear hl
    have hvv : kv true l = -l - 1 := rfl
    rw [hvv]
    go_enter Tryd.func38, Tryd.ntmps38
    go_wp2_with fail
    refine (form_64 _).mono ?_; rintro e w' ⟨rfl, hb⟩
    have hbH := Lib.hid hb
    clear hb
    go_wp2_with fail
    go_ret2
    exact ⟨rfl, hbH.out⟩
  · rw [if_neg hN] at a2
    have hv : neg64 b = false := by simp [neg64, hN]
    rw [hv]
    clear hN hv
    generalize hl : b % 9223372036854775808 = l at *
    clear hl
    have hvv : kv false l = l := rfl
    rw [hvv]
    go_enter Tryd.func38, Tryd.ntmps38
    go_wp2_with fail
    refine (form_64 _).mono ?_; rintro e w' ⟨rfl, hb⟩
    have hbH := Lib.hid hb
    clear hb
    go_wp2_with fail
    go_ret2
    exact ⟨rfl, hbH.out⟩
theorem bitsOf_dn_64 (k : Int) (h : k < 0) (hk : -9223372036854775808 < k) (W : World) : Calls Tryd.prog 88 #[.int .i64 k, .int .i64 64] W fun e w' => e = .returned (.int .u64 (9223372036854775808 + (-k - 1))) ∧ W = w' := by
  have a1 : bits .or .u64 (-k - 1) 9223372036854775808 = -k - 1 + 9223372036854775808 := or_top _ 63 (by omega) (by omega) (by omega)
  have a2 : IntKind.u64.wrap (-k - 1) = -k - 1 := by rw [IntKind.wrap_u64]; omega
  have k1 : IntKind.u64.wrap 9223372036854775808 = 9223372036854775808 := by decide
  rw [Int.add_comm]
  go_enter Tryd.func88, Tryd.ntmps88
  go_wp2_with fail
  go_ret
  exact ⟨rfl, rfl⟩

set_option maxRecDepth 100000 in
theorem up_ok (b n c k v : Int) (hc4 : c ≠ 4) (hc3 : c ≠ 3 ∨ k < 0) (hk : -9223372036854775806 ≤ k ∧ k ≤ 9223372036854775806)
    (c1 : ∀ W', Calls Tryd.prog 87 #[.int .u64 b, .int .i64 n] W' fun e w' => e = .returned (.tuple #[.int .i64 c, .nilIface]) ∧ Below W'.heap.size W' w')
    (c2 : ∀ W', Calls Tryd.prog 38 #[.int .u64 b, .int .i64 n] W' fun e w' => e = .returned (.tuple #[.int .i64 k, .nilIface]) ∧ Below W'.heap.size W' w')
    (c3 : ∀ W', Calls Tryd.prog 88 #[.int .i64 (k + 1), .int .i64 n] W' fun e w' => e = .returned (.int .u64 v) ∧ W' = w') (W : World) :
    Calls Tryd.prog 40 #[.int .u64 b, .int .i64 n] W fun e w' => e = .returned (.tuple #[.int .u64 v, .nilIface]) ∧ Below W.heap.size W w' := by
  have C1 := Lib.hid c1
  have C2 := Lib.hid c2
  have C3 := Lib.hid c3
  clear c1 c2 c3
  obtain ⟨hk1, hk2⟩ := hk
  have e4 : (c == 4) = false := by rw [beq_eq_false_iff_ne]; exact hc4
  by_cases h3 : c = 3
  · have hk3 : k < 0 := hc3.resolve_left (fun h => h h3)
    subst h3
    clear hc3 hc4 e4
    go_enter Tryd.func40, Tryd.ntmps40
    go_wp2_with fail
    refine (C1.out _).mono ?_; rintro e w1 ⟨rfl, hb⟩
    have H1 := Lib.hid hb
    clear hb
    go_wp2_with fail
    refine (C2.out _).mono ?_; rintro e w2 ⟨rfl, hb⟩
    have H2 := Lib.hid (H1.out.trans (hb.mono H1.out.size))
    clear hb
    go_wp2_with fail
    refine (C3.out _).mono ?_; rintro e w3 ⟨rfl, rfl⟩
    go_wp2_with fail
    go_ret2
    exact ⟨rfl, H2.out⟩
  · have e3 : (c == 3) = false := by rw [beq_eq_false_iff_ne]; exact h3
    clear hc3 hc4 h3
    go_enter Tryd.func40, Tryd.ntmps40
    go_wp2_with fail
    refine (C1.out _).mono ?_; rintro e w1 ⟨rfl, hb⟩
    have H1 := Lib.hid hb
    clear hb
    go_wp2_with fail
    refine (C2.out _).mono ?_; rintro e w2 ⟨rfl, hb⟩
    have H2 := Lib.hid (H1.out.trans (hb.mono H1.out.size))
    clear hb
    go_wp2_with fail
    refine (C3.out _).mono ?_; rintro e w3 ⟨rfl, rfl⟩
    go_wp2_with fail
    go_ret2
    exact ⟨rfl, H2.out⟩
set_option maxRecDepth 100000 in
theorem up_bad (b n c k : Int) (hc : c = 4 ∨ (c = 3 ∧ 0 ≤ k))
    (c1 : ∀ W', Calls Tryd.prog 87 #[.int .u64 b, .int .i64 n] W' fun e w' => e = .returned (.tuple #[.int .i64 c, .nilIface]) ∧ Below W'.heap.size W' w')
    (c2 : ∀ W', Calls Tryd.prog 38 #[.int .u64 b, .int .i64 n] W' fun e w' => e = .returned (.tuple #[.int .i64 k, .nilIface]) ∧ Below W'.heap.size W' w') (W : World) :
    Calls Tryd.prog 40 #[.int .u64 b, .int .i64 n] W fun e w' => e = .returned (.tuple #[.int .u64 0, .iface 23 (.int .i64 2)]) ∧ Below W.heap.size W w' := by
  have C1 := Lib.hid c1
  have C2 := Lib.hid c2
  clear c1 c2
  rcases hc with rfl | ⟨rfl, hk3⟩
  all_goals
    go_enter Tryd.func40, Tryd.ntmps40
    go_wp2_with fail
    refine (C1.out _).mono ?_; rintro e w1 ⟨rfl, hb⟩
    have H1 := Lib.hid hb
    clear hb
    go_wp2_with fail
    refine (C2.out _).mono ?_; rintro e w2 ⟨rfl, hb⟩
    have H2 := Lib.hid (H1.out.trans (hb.mono H1.out.size))
    clear hb
    go_wp2_with fail
    go_ret2
    exact ⟨rfl, H2.out⟩
set_option maxRecDepth 100000 in
theorem up_no (b n : Int) (h32 : n ≠ 32) (h64 : n ≠ 64) (W : World) :
    Calls Tryd.prog 40 #[.int .u64 b, .int .i64 n] W fun e w' => e = .returned (.tuple #[.int .u64 0, .iface 23 (.int .i64 1)]) ∧ Below W.heap.size W w' := by
  have C := Lib.hid (fun W => class_no b n h32 h64 W)
  clear h32 h64
  go_enter Tryd.func40, Tryd.ntmps40
  go_wp2_with fail
  refine (C.out _).mono ?_; rintro e w' ⟨rfl, hb⟩
  have hbH := Lib.hid hb
  clear hb
  go_wp2_with fail
  go_ret2
  exact ⟨rfl, hbH.out⟩

set_option maxRecDepth 100000 in
theorem down_ok (b n c k v : Int) (hc4 : c ≠ 4) (hc3 : c ≠ 3 ∨ 0 ≤ k) (hk : -9223372036854775806 ≤ k ∧ k ≤ 9223372036854775806)
    (c1 : ∀ W', Calls Tryd.prog 87 #[.int .u64 b, .int .i64 n] W' fun e w' => e = .returned (.tuple #[.int .i64 c, .nilIface]) ∧ Below W'.heap.size W' w')
    (c2 : ∀ W', Calls Tryd.prog 38 #[.int .u64 b, .int .i64 n] W' fun e w' => e = .returned (.tuple #[.int .i64 k, .nilIface]) ∧ Below W'.heap.size W' w')
    (c3 : ∀ W', Calls Tryd.prog 88 #[.int .i64 (k - 1), .int .i64 n] W' fun e w' => e = .returned (.int .u64 v) ∧ W' = w') (W : World) :
    Calls Tryd.prog 41 #[.int .u64 b, .int .i64 n] W fun e w' => e = .returned (.tuple #[.int .u64 v, .nilIface]) ∧ Below W.heap.size W w' := by
  have C1 := Lib.hid c1
  have C2 := Lib.hid c2
  have C3 := Lib.hid c3
  clear c1 c2 c3
  obtain ⟨hk1, hk2⟩ := hk
  have e4 : (c == 4) = false := by rw [beq_eq_false_iff_ne]; exact hc4
  by_cases h3 : c = 3
  · have hk3 : 0 ≤ k := hc3.resolve_left (fun h => h h3)
    subst h3
    clear hc3 hc4 e4
    go_enter Tryd.func41, Tryd.ntmps41
    go_wp2_with fail
    refine (C1.out _).mono ?_; rintro e w1 ⟨rfl, hb⟩
    have H1 := Lib.hid hb
    clear hb
    go_wp2_with fail
    refine (C2.out _).mono ?_; rintro e w2 ⟨rfl, hb⟩
    have H2 := Lib.hid (H1.out.trans (hb.mono H1.out.size))
    clear hb
    go_wp2_with fail
    refine (C3.out _).mono ?_; rintro e w3 ⟨rfl, rfl⟩
    go_wp2_with fail
    go_ret2
    exact ⟨rfl, H2.out⟩
  · have e3 : (c == 3) = false := by rw [beq_eq_false_iff_ne]; exact h3
    clear hc3 hc4 h3
    go_enter Tryd.func41, Tryd.ntmps41
    go_wp2_with fail
    refine (C1.out _).mono ?_; rintro e w1 ⟨rfl, hb⟩
    have H1 := Lib.hid hb
    clear hb
    go_wp2_with fail
    refine (C2.out _).mono ?_; rintro e w2 ⟨rfl, hb⟩
    have H2 := Lib.hid (H1.out.trans (hb.mono H1.out.size))
    clear hb
    go_wp2_with fail
    refine (C3.out _).mono ?_; rintro e w3 ⟨rfl, rfl⟩
    go_wp2_with fail
    go_ret2
    exact ⟨rfl, H2.out⟩
set_option maxRecDepth 100000 in
theorem down_bad (b n c k : Int) (hc : c = 4 ∨ (c = 3 ∧ k < 0))
    (c1 : ∀ W', Calls Tryd.prog 87 #[.int .u64 b, .int .i64 n] W' fun e w' => e = .returned (.tuple #[.int .i64 c, .nilIface]) ∧ Below W'.heap.size W' w')
    (c2 : ∀ W', Calls Tryd.prog 38 #[.int .u64 b, .int .i64 n] W' fun e w' => e = .returned (.tuple #[.int .i64 k, .nilIface]) ∧ Below W'.heap.size W' w') (W : World) :
    Calls Tryd.prog 41 #[.int .u64 b, .int .i64 n] W fun e w' => e = .returned (.tuple #[.int .u64 0, .iface 23 (.int .i64 2)]) ∧ Below W.heap.size W w' := by
  have C1 := Lib.hid c1
  have C2 := Lib.hid c2
  clear c1 c2
  rcases hc with rfl | ⟨rfl, hk3⟩
  all_goals
    go_enter Tryd.func41, Tryd.ntmps41
    go_wp2_with fail
    refine (C1.out _).mono ?_; rintro e w1 ⟨rfl, hb⟩
    have H1 := Lib.hid hb
    clear hb
    go_wp2_with fail
    refine (C2.out _).mono ?_; rintro e w2 ⟨rfl, hb⟩
    have H2 := Lib.hid (H1.out.trans (hb.mono H1.out.size))
    clear hb
    go_wp2_with fail
    go_ret2
    exact ⟨rfl, H2.out⟩
set_option maxRecDepth 100000 in
theorem down_no (b n : Int) (h32 : n ≠ 32) (h64 : n ≠ 64) (W : World) :
    Calls Tryd.prog 41 #[.int .u64 b, .int .i64 n] W fun e w' => e = .returned (.tuple #[.int .u64 0, .iface 23 (.int .i64 1)]) ∧ Below W.heap.size W w' := by
  have C := Lib.hid (fun W => class_no b n h32 h64 W)
  clear h32 h64
  go_enter Tryd.func41, Tryd.ntmps41
  go_wp2_with fail
  refine (C.out _).mono ?_; rintro e w' ⟨rfl, hb⟩
  have hbH := Lib.hid hb
  clear hb
  go_wp2_with fail
  go_ret2
  exact ⟨rfl, hbH.out⟩
end Go.Proofs.YtifnochpmlllgaaDoor.Real
