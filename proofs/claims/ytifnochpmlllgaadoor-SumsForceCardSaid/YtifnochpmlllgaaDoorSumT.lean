/-
  PROVED HERE: the contracts of sums.back at every sum that can be made, and of sums.in. Conditions: as each theorem states.
-/
import Derived.Test.YtifnochpmlllgaaDoorSumP
namespace Go.Proofs.YtifnochpmlllgaaDoor.Sum
open Go.RowKit
theorem bk_val (w x P lw pl y h : Nat) (hw1 : 1 ≤ w) (hw : w ≤ 32) (hx : x < 2 ^ w) (hP : P < 2 ^ w) (hl : lw = x % 2) (hpl : pl = P * (x % 2)) (hy : y = x ^^^ pl) (hh : h = 2 ^ (w - 1)) :
    bits .or .u32 ((y : Int) / 2) ((lw : Int) * (h : Int)) = ((bk w P x : Nat) : Int) := by
  have h32 : (2 : Nat) ^ w ≤ 4294967296 := Nat.le_trans (Nat.pow_le_pow_right (by decide) hw) (by decide)
  have e : 2 ^ w = 2 ^ (w - 1) * 2 := by rw [← Nat.pow_succ]; congr 1; omega
  have hb := bk_half w P x hw1 hP hx
  have hbl := bk_lt w P x hw1 hP hx
  subst hl hpl hy hh
  rw [show ((x ^^^ P * (x % 2) : Nat) : Int) / 2 = (((x ^^^ P * (x % 2)) / 2 : Nat) : Int) by omega, show ((x % 2 : Nat) : Int) * ((2 ^ (w - 1) : Nat) : Int) = ((x % 2 * 2 ^ (w - 1) : Nat) : Int) by rw [Int.natCast_mul]]
  have hb2 : x % 2 * 2 ^ (w - 1) < 4294967296 := by
    rcases (show x % 2 = 0 ∨ x % 2 = 1 by omega) with h | h
    · rw [h, Nat.zero_mul]; decide
    · rw [h, Nat.one_mul]; omega
  rw [u32_or_nat _ _ (by omega) hb2, Nat.or_comm, nat_join (w - 1) _ _ (Nat.mul_mod_left _ _) hb]
  unfold bk
  rw [Nat.add_comm]
set_option maxRecDepth 100000 in
set_option maxHeartbeats 2000000 in
theorem back_32_false (P : Nat) (I O r c : Nat) (hP : P < 4294967296) (hr : r < 4294967296) (hc : c < 256) (W : World) :
    Calls Tryd.prog 95 #[Sm (32 : Nat) P false I O, .int .u32 r, .int .u8 c] W fun e w' => e = .returned (.int .u32 (bst8 32 P false r c : Nat)) ∧ Below W.heap.size W w' := by
  unfold Sm
  have hrv : rv c 8 < 256 := rv_lt c 8
  go_enter Tryd.func95, Tryd.ntmps95
  go_wp2_with fail
  go_loopw [1, 14] (fun a i wr => ∃ k x : Nat, k ≤ 8 ∧ i = .int .i64 k ∧ a = .int .u32 x ∧ Hid (x = bks 32 P r k) ∧ Hid (wr.cell? ⟨W.heap.size, 0, none⟩ = some (.int .i64 32)) ∧ Hid (wr.cell? ⟨W.heap.size, 1, none⟩ = some (.int .u32 P)) ∧ Hid (Below W.heap.size W wr)) (fun _ i _ => 8 - (intOf i).toNat)
  case atStart => exact ⟨0, _, by omega, rfl, rfl, Lib.hid rfl, Lib.hid (by simp), Lib.hid (by simp), Lib.hid ((Below.refl _ _).alloc (Nat.le_refl _) _)⟩
  case round =>
    obtain ⟨k, x, hk, rfl, rfl, hx, hA, hB, hBH⟩ := hrel
    have hxl : x < 4294967296 := by rw [hx.out]; exact bks_lt 32 P _ (by decide) hP hr k
    by_cases hlt : k < 8
    · have hcA := hA.out
      have hcB := hB.out
      obtain ⟨lw, hlw, hl1, hlx⟩ : ∃ lw : Nat, bits .and .u32 (x : Int) 1 = lw ∧ lw ≤ 1 ∧ lw = x % 2 := ⟨x % 2, odd_bit x (by omega), by omega, rfl⟩
      obtain ⟨pl, hpl, hp1, hpx⟩ : ∃ pl : Nat, (P : Int) * (lw : Int) = pl ∧ pl < 4294967296 ∧ pl = P * (x % 2) := ⟨P * lw, by rw [Int.natCast_mul], by
        rcases (show lw = 0 ∨ lw = 1 by omega) with h | h
        · rw [h, Nat.mul_zero]; omega
        · rw [h, Nat.mul_one]; exact hP, by rw [hlx]⟩
      obtain ⟨y, hy, hy1, hyx⟩ : ∃ y : Nat, bits .xor .u32 (x : Int) (pl : Int) = y ∧ y < 4294967296 ∧ y = x ^^^ pl := ⟨x ^^^ pl, u32_xor_nat x pl (by omega) (by omega), Nat.xor_lt_two_pow (n := 32) hxl hp1, rfl⟩
      have V := Lib.hid (bk_val 32 x P lw pl y 2147483648 (by decide) (by decide) hxl hP hlx hpx hyx (by decide))
      clear hlx hpx hyx
      go_wp2_with fail
      go_quiet (fail)
      go_wp2_with fail
      go_roundw
      case rel => exact ⟨k + 1, bk 32 P x, by omega, by go_num, by first | rw [V.out] | (rw [← V.out]; simp), Lib.hid (by rw [hx.out]; rfl), hA, hB, Lib.hid (below_drewN hBH.out _)⟩
      case measure => simp [intOf]; omega
    · obtain rfl : k = 8 := by omega
      have hcA := hA.out
      have X0 : Hid (bits .xor .u32 (x : Int) ((c : Int) * 16777216) = ((x ^^^ (c * 2 ^ (32 - 8)) : Nat) : Int)) := Lib.hid (by
        rw [show (c : Int) * 16777216 = ((c * 2 ^ (32 - 8) : Nat) : Int) by omega, u32_xor_nat x _ (by omega) (by omega)])
      go_wp2_with fail
      rw [X0.out]
      go_ret
      exact ⟨by rw [hx.out]; rfl, hBH.out⟩
set_option maxRecDepth 100000 in
set_option maxHeartbeats 2000000 in
theorem back_32_true (P : Nat) (I O r c : Nat) (hP : P < 4294967296) (hr : r < 4294967296) (hc : c < 256) (W : World) :
    Calls Tryd.prog 95 #[Sm (32 : Nat) P true I O, .int .u32 r, .int .u8 c] W fun e w' => e = .returned (.int .u32 (bst8 32 P true r c : Nat)) ∧ Below W.heap.size W w' := by
  unfold Sm
  have T := Lib.hid (turned_any c 8 (by decide) (by omega))
  have hrv : rv c 8 < 256 := rv_lt c 8
  go_enter Tryd.func95, Tryd.ntmps95
  go_wp2_with fail
  refine (T.out _).mono ?_; rintro e w' ⟨rfl, rfl⟩
  go_wp2_with fail
  go_loopw [1, 14] (fun a i wr => ∃ k x : Nat, k ≤ 8 ∧ i = .int .i64 k ∧ a = .int .u32 x ∧ Hid (x = bks 32 P r k) ∧ Hid (wr.cell? ⟨W.heap.size, 0, none⟩ = some (.int .i64 32)) ∧ Hid (wr.cell? ⟨W.heap.size, 1, none⟩ = some (.int .u32 P)) ∧ Hid (Below W.heap.size W wr)) (fun _ i _ => 8 - (intOf i).toNat)
  case atStart => exact ⟨0, _, by omega, rfl, rfl, Lib.hid rfl, Lib.hid (by simp), Lib.hid (by simp), Lib.hid ((Below.refl _ _).alloc (Nat.le_refl _) _)⟩
  case round =>
    obtain ⟨k, x, hk, rfl, rfl, hx, hA, hB, hBH⟩ := hrel
    have hxl : x < 4294967296 := by rw [hx.out]; exact bks_lt 32 P _ (by decide) hP hr k
    by_cases hlt : k < 8
    · have hcA := hA.out
      have hcB := hB.out
      obtain ⟨lw, hlw, hl1, hlx⟩ : ∃ lw : Nat, bits .and .u32 (x : Int) 1 = lw ∧ lw ≤ 1 ∧ lw = x % 2 := ⟨x % 2, odd_bit x (by omega), by omega, rfl⟩
      obtain ⟨pl, hpl, hp1, hpx⟩ : ∃ pl : Nat, (P : Int) * (lw : Int) = pl ∧ pl < 4294967296 ∧ pl = P * (x % 2) := ⟨P * lw, by rw [Int.natCast_mul], by
        rcases (show lw = 0 ∨ lw = 1 by omega) with h | h
        · rw [h, Nat.mul_zero]; omega
        · rw [h, Nat.mul_one]; exact hP, by rw [hlx]⟩
      obtain ⟨y, hy, hy1, hyx⟩ : ∃ y : Nat, bits .xor .u32 (x : Int) (pl : Int) = y ∧ y < 4294967296 ∧ y = x ^^^ pl := ⟨x ^^^ pl, u32_xor_nat x pl (by omega) (by omega), Nat.xor_lt_two_pow (n := 32) hxl hp1, rfl⟩
      have V := Lib.hid (bk_val 32 x P lw pl y 2147483648 (by decide) (by decide) hxl hP hlx hpx hyx (by decide))
      clear hlx hpx hyx
      go_wp2_with fail
      go_quiet (fail)
      go_wp2_with fail
      go_roundw
      case rel => exact ⟨k + 1, bk 32 P x, by omega, by go_num, by first | rw [V.out] | (rw [← V.out]; simp), Lib.hid (by rw [hx.out]; rfl), hA, hB, Lib.hid (below_drewN hBH.out _)⟩
      case measure => simp [intOf]; omega
    · obtain rfl : k = 8 := by omega
      have hcA := hA.out
      have X0 : Hid (bits .xor .u32 (x : Int) (((rv c 8 : Nat) : Int) * 16777216) = ((x ^^^ ((rv c 8) * 2 ^ (32 - 8)) : Nat) : Int)) := Lib.hid (by
        rw [show ((rv c 8 : Nat) : Int) * 16777216 = (((rv c 8) * 2 ^ (32 - 8) : Nat) : Int) by omega, u32_xor_nat x _ (by omega) (by omega)])
      go_wp2_with fail
      rw [X0.out]
      go_ret
      exact ⟨by rw [hx.out]; rfl, hBH.out⟩
set_option maxRecDepth 100000 in
set_option maxHeartbeats 2000000 in
theorem back_16_false (P : Nat) (I O r c : Nat) (hP : P < 65536) (hr : r < 65536) (hc : c < 256) (W : World) :
    Calls Tryd.prog 95 #[Sm (16 : Nat) P false I O, .int .u32 r, .int .u8 c] W fun e w' => e = .returned (.int .u32 (bst8 16 P false r c : Nat)) ∧ Below W.heap.size W w' := by
  unfold Sm
  have hrv : rv c 8 < 256 := rv_lt c 8
  go_enter Tryd.func95, Tryd.ntmps95
  go_wp2_with fail
  go_loopw [1, 14] (fun a i wr => ∃ k x : Nat, k ≤ 8 ∧ i = .int .i64 k ∧ a = .int .u32 x ∧ Hid (x = bks 16 P r k) ∧ Hid (wr.cell? ⟨W.heap.size, 0, none⟩ = some (.int .i64 16)) ∧ Hid (wr.cell? ⟨W.heap.size, 1, none⟩ = some (.int .u32 P)) ∧ Hid (Below W.heap.size W wr)) (fun _ i _ => 8 - (intOf i).toNat)
  case atStart => exact ⟨0, _, by omega, rfl, rfl, Lib.hid rfl, Lib.hid (by simp), Lib.hid (by simp), Lib.hid ((Below.refl _ _).alloc (Nat.le_refl _) _)⟩
  case round =>
    obtain ⟨k, x, hk, rfl, rfl, hx, hA, hB, hBH⟩ := hrel
    have hxl : x < 65536 := by rw [hx.out]; exact bks_lt 16 P _ (by decide) hP hr k
    by_cases hlt : k < 8
    · have hcA := hA.out
      have hcB := hB.out
      obtain ⟨lw, hlw, hl1, hlx⟩ : ∃ lw : Nat, bits .and .u32 (x : Int) 1 = lw ∧ lw ≤ 1 ∧ lw = x % 2 := ⟨x % 2, odd_bit x (by omega), by omega, rfl⟩
      obtain ⟨pl, hpl, hp1, hpx⟩ : ∃ pl : Nat, (P : Int) * (lw : Int) = pl ∧ pl < 65536 ∧ pl = P * (x % 2) := ⟨P * lw, by rw [Int.natCast_mul], by
        rcases (show lw = 0 ∨ lw = 1 by omega) with h | h
        · rw [h, Nat.mul_zero]; omega
        · rw [h, Nat.mul_one]; exact hP, by rw [hlx]⟩
      obtain ⟨y, hy, hy1, hyx⟩ : ∃ y : Nat, bits .xor .u32 (x : Int) (pl : Int) = y ∧ y < 65536 ∧ y = x ^^^ pl := ⟨x ^^^ pl, u32_xor_nat x pl (by omega) (by omega), Nat.xor_lt_two_pow (n := 16) hxl hp1, rfl⟩
      have V := Lib.hid (bk_val 16 x P lw pl y 32768 (by decide) (by decide) hxl hP hlx hpx hyx (by decide))
      clear hlx hpx hyx
      go_wp2_with fail
      go_quiet (fail)
      go_wp2_with fail
      go_roundw
      case rel => exact ⟨k + 1, bk 16 P x, by omega, by go_num, by first | rw [V.out] | (rw [← V.out]; simp), Lib.hid (by rw [hx.out]; rfl), hA, hB, Lib.hid (below_drewN hBH.out _)⟩
      case measure => simp [intOf]; omega
    · obtain rfl : k = 8 := by omega
      have hcA := hA.out
      have X0 : Hid (bits .xor .u32 (x : Int) ((c : Int) * 256) = ((x ^^^ (c * 2 ^ (16 - 8)) : Nat) : Int)) := Lib.hid (by
        rw [show (c : Int) * 256 = ((c * 2 ^ (16 - 8) : Nat) : Int) by omega, u32_xor_nat x _ (by omega) (by omega)])
      go_wp2_with fail
      rw [X0.out]
      go_ret
      exact ⟨by rw [hx.out]; rfl, hBH.out⟩
set_option maxRecDepth 100000 in
set_option maxHeartbeats 2000000 in
theorem back_16_true (P : Nat) (I O r c : Nat) (hP : P < 65536) (hr : r < 65536) (hc : c < 256) (W : World) :
    Calls Tryd.prog 95 #[Sm (16 : Nat) P true I O, .int .u32 r, .int .u8 c] W fun e w' => e = .returned (.int .u32 (bst8 16 P true r c : Nat)) ∧ Below W.heap.size W w' := by
  unfold Sm
  have T := Lib.hid (turned_any c 8 (by decide) (by omega))
  have hrv : rv c 8 < 256 := rv_lt c 8
  go_enter Tryd.func95, Tryd.ntmps95
  go_wp2_with fail
  refine (T.out _).mono ?_; rintro e w' ⟨rfl, rfl⟩
  go_wp2_with fail
  go_loopw [1, 14] (fun a i wr => ∃ k x : Nat, k ≤ 8 ∧ i = .int .i64 k ∧ a = .int .u32 x ∧ Hid (x = bks 16 P r k) ∧ Hid (wr.cell? ⟨W.heap.size, 0, none⟩ = some (.int .i64 16)) ∧ Hid (wr.cell? ⟨W.heap.size, 1, none⟩ = some (.int .u32 P)) ∧ Hid (Below W.heap.size W wr)) (fun _ i _ => 8 - (intOf i).toNat)
  case atStart => exact ⟨0, _, by omega, rfl, rfl, Lib.hid rfl, Lib.hid (by simp), Lib.hid (by simp), Lib.hid ((Below.refl _ _).alloc (Nat.le_refl _) _)⟩
  case round =>
    obtain ⟨k, x, hk, rfl, rfl, hx, hA, hB, hBH⟩ := hrel
    have hxl : x < 65536 := by rw [hx.out]; exact bks_lt 16 P _ (by decide) hP hr k
    by_cases hlt : k < 8
    · have hcA := hA.out
      have hcB := hB.out
      obtain ⟨lw, hlw, hl1, hlx⟩ : ∃ lw : Nat, bits .and .u32 (x : Int) 1 = lw ∧ lw ≤ 1 ∧ lw = x % 2 := ⟨x % 2, odd_bit x (by omega), by omega, rfl⟩
      obtain ⟨pl, hpl, hp1, hpx⟩ : ∃ pl : Nat, (P : Int) * (lw : Int) = pl ∧ pl < 65536 ∧ pl = P * (x % 2) := ⟨P * lw, by rw [Int.natCast_mul], by
        rcases (show lw = 0 ∨ lw = 1 by omega) with h | h
        · rw [h, Nat.mul_zero]; omega
        · rw [h, Nat.mul_one]; exact hP, by rw [hlx]⟩
      obtain ⟨y, hy, hy1, hyx⟩ : ∃ y : Nat, bits .xor .u32 (x : Int) (pl : Int) = y ∧ y < 65536 ∧ y = x ^^^ pl := ⟨x ^^^ pl, u32_xor_nat x pl (by omega) (by omega), Nat.xor_lt_two_pow (n := 16) hxl hp1, rfl⟩
      have V := Lib.hid (bk_val 16 x P lw pl y 32768 (by decide) (by decide) hxl hP hlx hpx hyx (by decide))
      clear hlx hpx hyx
      go_wp2_with fail
      go_quiet (fail)
      go_wp2_with fail
      go_roundw
      case rel => exact ⟨k + 1, bk 16 P x, by omega, by go_num, by first | rw [V.out] | (rw [← V.out]; simp), Lib.hid (by rw [hx.out]; rfl), hA, hB, Lib.hid (below_drewN hBH.out _)⟩
      case measure => simp [intOf]; omega
    · obtain rfl : k = 8 := by omega
      have hcA := hA.out
      have X0 : Hid (bits .xor .u32 (x : Int) (((rv c 8 : Nat) : Int) * 256) = ((x ^^^ ((rv c 8) * 2 ^ (16 - 8)) : Nat) : Int)) := Lib.hid (by
        rw [show ((rv c 8 : Nat) : Int) * 256 = (((rv c 8) * 2 ^ (16 - 8) : Nat) : Int) by omega, u32_xor_nat x _ (by omega) (by omega)])
      go_wp2_with fail
      rw [X0.out]
      go_ret
      exact ⟨by rw [hx.out]; rfl, hBH.out⟩
set_option maxRecDepth 100000 in
set_option maxHeartbeats 2000000 in
theorem back_8_false (P : Nat) (I O r c : Nat) (hP : P < 256) (hr : r < 256) (hc : c < 256) (W : World) :
    Calls Tryd.prog 95 #[Sm (8 : Nat) P false I O, .int .u32 r, .int .u8 c] W fun e w' => e = .returned (.int .u32 (bst8 8 P false r c : Nat)) ∧ Below W.heap.size W w' := by
  unfold Sm
  have hrv : rv c 8 < 256 := rv_lt c 8
  go_enter Tryd.func95, Tryd.ntmps95
  go_wp2_with fail
  go_loopw [1, 14] (fun a i wr => ∃ k x : Nat, k ≤ 8 ∧ i = .int .i64 k ∧ a = .int .u32 x ∧ Hid (x = bks 8 P r k) ∧ Hid (wr.cell? ⟨W.heap.size, 0, none⟩ = some (.int .i64 8)) ∧ Hid (wr.cell? ⟨W.heap.size, 1, none⟩ = some (.int .u32 P)) ∧ Hid (Below W.heap.size W wr)) (fun _ i _ => 8 - (intOf i).toNat)
  case atStart => exact ⟨0, _, by omega, rfl, rfl, Lib.hid rfl, Lib.hid (by simp), Lib.hid (by simp), Lib.hid ((Below.refl _ _).alloc (Nat.le_refl _) _)⟩
  case round =>
    obtain ⟨k, x, hk, rfl, rfl, hx, hA, hB, hBH⟩ := hrel
    have hxl : x < 256 := by rw [hx.out]; exact bks_lt 8 P _ (by decide) hP hr k
    by_cases hlt : k < 8
    · have hcA := hA.out
      have hcB := hB.out
      obtain ⟨lw, hlw, hl1, hlx⟩ : ∃ lw : Nat, bits .and .u32 (x : Int) 1 = lw ∧ lw ≤ 1 ∧ lw = x % 2 := ⟨x % 2, odd_bit x (by omega), by omega, rfl⟩
      obtain ⟨pl, hpl, hp1, hpx⟩ : ∃ pl : Nat, (P : Int) * (lw : Int) = pl ∧ pl < 256 ∧ pl = P * (x % 2) := ⟨P * lw, by rw [Int.natCast_mul], by
        rcases (show lw = 0 ∨ lw = 1 by omega) with h | h
        · rw [h, Nat.mul_zero]; omega
        · rw [h, Nat.mul_one]; exact hP, by rw [hlx]⟩
      obtain ⟨y, hy, hy1, hyx⟩ : ∃ y : Nat, bits .xor .u32 (x : Int) (pl : Int) = y ∧ y < 256 ∧ y = x ^^^ pl := ⟨x ^^^ pl, u32_xor_nat x pl (by omega) (by omega), Nat.xor_lt_two_pow (n := 8) hxl hp1, rfl⟩
      have V := Lib.hid (bk_val 8 x P lw pl y 128 (by decide) (by decide) hxl hP hlx hpx hyx (by decide))
      clear hlx hpx hyx
      go_wp2_with fail
      go_quiet (fail)
      go_wp2_with fail
      go_roundw
      case rel => exact ⟨k + 1, bk 8 P x, by omega, by go_num, by first | rw [V.out] | (rw [← V.out]; simp), Lib.hid (by rw [hx.out]; rfl), hA, hB, Lib.hid (below_drewN hBH.out _)⟩
      case measure => simp [intOf]; omega
    · obtain rfl : k = 8 := by omega
      have hcA := hA.out
      have X0 : Hid (bits .xor .u32 (x : Int) ((c : Int)) = ((x ^^^ (c * 2 ^ (8 - 8)) : Nat) : Int)) := Lib.hid (by
        rw [show (c : Int) = ((c * 2 ^ (8 - 8) : Nat) : Int) by omega, u32_xor_nat x _ (by omega) (by omega)])
      go_wp2_with fail
      rw [X0.out]
      go_ret
      exact ⟨by rw [hx.out]; rfl, hBH.out⟩
set_option maxRecDepth 100000 in
set_option maxHeartbeats 2000000 in
theorem back_8_true (P : Nat) (I O r c : Nat) (hP : P < 256) (hr : r < 256) (hc : c < 256) (W : World) :
    Calls Tryd.prog 95 #[Sm (8 : Nat) P true I O, .int .u32 r, .int .u8 c] W fun e w' => e = .returned (.int .u32 (bst8 8 P true r c : Nat)) ∧ Below W.heap.size W w' := by
  unfold Sm
  have T := Lib.hid (turned_any c 8 (by decide) (by omega))
  have hrv : rv c 8 < 256 := rv_lt c 8
  go_enter Tryd.func95, Tryd.ntmps95
  go_wp2_with fail
  refine (T.out _).mono ?_; rintro e w' ⟨rfl, rfl⟩
  go_wp2_with fail
  go_loopw [1, 14] (fun a i wr => ∃ k x : Nat, k ≤ 8 ∧ i = .int .i64 k ∧ a = .int .u32 x ∧ Hid (x = bks 8 P r k) ∧ Hid (wr.cell? ⟨W.heap.size, 0, none⟩ = some (.int .i64 8)) ∧ Hid (wr.cell? ⟨W.heap.size, 1, none⟩ = some (.int .u32 P)) ∧ Hid (Below W.heap.size W wr)) (fun _ i _ => 8 - (intOf i).toNat)
  case atStart => exact ⟨0, _, by omega, rfl, rfl, Lib.hid rfl, Lib.hid (by simp), Lib.hid (by simp), Lib.hid ((Below.refl _ _).alloc (Nat.le_refl _) _)⟩
  case round =>
    obtain ⟨k, x, hk, rfl, rfl, hx, hA, hB, hBH⟩ := hrel
    have hxl : x < 256 := by rw [hx.out]; exact bks_lt 8 P _ (by decide) hP hr k
    by_cases hlt : k < 8
    · have hcA := hA.out
      have hcB := hB.out
      obtain ⟨lw, hlw, hl1, hlx⟩ : ∃ lw : Nat, bits .and .u32 (x : Int) 1 = lw ∧ lw ≤ 1 ∧ lw = x % 2 := ⟨x % 2, odd_bit x (by omega), by omega, rfl⟩
      obtain ⟨pl, hpl, hp1, hpx⟩ : ∃ pl : Nat, (P : Int) * (lw : Int) = pl ∧ pl < 256 ∧ pl = P * (x % 2) := ⟨P * lw, by rw [Int.natCast_mul], by
        rcases (show lw = 0 ∨ lw = 1 by omega) with h | h
        · rw [h, Nat.mul_zero]; omega
        · rw [h, Nat.mul_one]; exact hP, by rw [hlx]⟩
      obtain ⟨y, hy, hy1, hyx⟩ : ∃ y : Nat, bits .xor .u32 (x : Int) (pl : Int) = y ∧ y < 256 ∧ y = x ^^^ pl := ⟨x ^^^ pl, u32_xor_nat x pl (by omega) (by omega), Nat.xor_lt_two_pow (n := 8) hxl hp1, rfl⟩
      have V := Lib.hid (bk_val 8 x P lw pl y 128 (by decide) (by decide) hxl hP hlx hpx hyx (by decide))
      clear hlx hpx hyx
      go_wp2_with fail
      go_quiet (fail)
      go_wp2_with fail
      go_roundw
      case rel => exact ⟨k + 1, bk 8 P x, by omega, by go_num, by first | rw [V.out] | (rw [← V.out]; simp), Lib.hid (by rw [hx.out]; rfl), hA, hB, Lib.hid (below_drewN hBH.out _)⟩
      case measure => simp [intOf]; omega
    · obtain rfl : k = 8 := by omega
      have hcA := hA.out
      have X0 : Hid (bits .xor .u32 (x : Int) (((rv c 8 : Nat) : Int)) = ((x ^^^ ((rv c 8) * 2 ^ (8 - 8)) : Nat) : Int)) := Lib.hid (by
        rw [show ((rv c 8 : Nat) : Int) = (((rv c 8) * 2 ^ (8 - 8) : Nat) : Int) by omega, u32_xor_nat x _ (by omega) (by omega)])
      go_wp2_with fail
      rw [X0.out]
      go_ret
      exact ⟨by rw [hx.out]; rfl, hBH.out⟩
theorem back_any (w : Nat) (hw : w = 8 ∨ w = 16 ∨ w = 32) (P : Nat) (t : Bool) (I O r c : Nat) (hP : P < 2 ^ w) (hr : r < 2 ^ w) (hc : c < 256) (W : World) :
    Calls Tryd.prog 95 #[Sm w P t I O, .int .u32 r, .int .u8 c] W fun e w' => e = .returned (.int .u32 (bst8 w P t r c : Nat)) ∧ Below W.heap.size W w' := by
  rcases hw with rfl | rfl | rfl <;> cases t
  · exact back_8_false P I O r c hP hr hc W
  · exact back_8_true P I O r c hP hr hc W
  · exact back_16_false P I O r c hP hr hc W
  · exact back_16_true P I O r c hP hr hc W
  · exact back_32_false P I O r c hP hr hc W
  · exact back_32_true P I O r c hP hr hc W
/-- The register that tells a sum. -/
def inn (w : Nat) (t : Bool) (n O : Nat) : Nat := if t then rv (n ^^^ O) w else n ^^^ O
set_option maxRecDepth 100000 in
set_option maxHeartbeats 1000000 in
theorem in_any (w : Nat) (hw : w ≤ 32) (P : Nat) (t : Bool) (I O n : Nat) (hO : O < 4294967296) (hn : n < 4294967296) (W : World) :
    Calls Tryd.prog 94 #[Sm w P t I O, .int .u32 n] W fun e w' => e = .returned (.int .u32 (inn w t n O : Nat)) ∧ Below W.heap.size W w' := by
  unfold Sm
  obtain ⟨x, hx, hxl, hxe⟩ : ∃ x : Nat, bits .xor .u32 (n : Int) (O : Int) = x ∧ x < 4294967296 ∧ n ^^^ O = x := ⟨n ^^^ O, u32_xor_nat n O hn hO, Nat.xor_lt_two_pow (n := 32) hn hO, rfl⟩
  have T := Lib.hid (turned_any x w hw hxl)
  have hxH := Lib.hid hxe
  clear hxe
  cases t with
  | false =>
    go_enter Tryd.func94, Tryd.ntmps94
    go_wp2_with fail
    go_ret
    exact ⟨by rw [← hxH.out]; rfl, (Below.refl _ _).alloc (Nat.le_refl _) _⟩
  | true =>
    go_enter Tryd.func94, Tryd.ntmps94
    go_wp2_with fail
    refine (T.out _).mono ?_; rintro e w' ⟨rfl, rfl⟩
    go_wp2_with fail
    go_ret
    exact ⟨by rw [← hxH.out]; rfl, (Below.refl _ _).alloc (Nat.le_refl _) _⟩
end Go.Proofs.YtifnochpmlllgaaDoor.Sum
