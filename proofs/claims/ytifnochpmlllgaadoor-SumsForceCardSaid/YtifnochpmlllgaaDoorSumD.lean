/-
  PROVED HERE: what a register is behind a byte; the contract of sums.step. Conditions: as each theorem states.
-/
import Derived.Test.YtifnochpmlllgaaDoorSumC
namespace Go.Proofs.YtifnochpmlllgaaDoor.Sum
open Go.RowKit
/-- The register, moved by one bit. -/
def sh (w P r : Nat) : Nat := (r * 2 % 2 ^ w) ^^^ (P * (r / 2 ^ (w - 1) % 2))
theorem sh_lt (w P r : Nat) (hP : P < 2 ^ w) : sh w P r < 2 ^ w := by
  unfold sh
  refine Nat.xor_lt_two_pow (Nat.mod_lt _ (Nat.two_pow_pos w)) ?_
  rcases (show r / 2 ^ (w - 1) % 2 = 0 ∨ r / 2 ^ (w - 1) % 2 = 1 by omega) with h | h
  · rw [h, Nat.mul_zero]; exact Nat.two_pow_pos w
  · rw [h, Nat.mul_one]; exact hP
def shs (w P r : Nat) : Nat → Nat
  | 0 => r
  | k + 1 => sh w P (shs w P r k)
theorem shs_lt (w P r : Nat) (hP : P < 2 ^ w) (hr : r < 2 ^ w) : ∀ k, shs w P r k < 2 ^ w
  | 0 => hr
  | _ + 1 => sh_lt w P _ hP
/-- A byte as it is put in. -/
def tc (t : Bool) (c : Nat) : Nat := if t then rv c 8 else c
theorem tc_lt (t : Bool) (c : Nat) (h : c < 256) : tc t c < 256 := by
  cases t
  · exact h
  · exact rv_lt c 8
def stp (w P : Nat) (t : Bool) (r c : Nat) : Nat := shs w P (r ^^^ (tc t c * 2 ^ (w - 8))) 8
theorem mask32 (W : World) : Calls Tryd.prog 93 #[.int .i64 32] W fun e w' => e = .returned (.int .u32 4294967295) ∧ w' = W := (mask_any 32 (by decide) W).mono fun _ _ h => ⟨h.1, h.2.symm⟩
theorem mask16 (W : World) : Calls Tryd.prog 93 #[.int .i64 16] W fun e w' => e = .returned (.int .u32 65535) ∧ w' = W := (mask_any 16 (by decide) W).mono fun _ _ h => ⟨h.1, h.2.symm⟩
theorem mask8 (W : World) : Calls Tryd.prog 93 #[.int .i64 8] W fun e w' => e = .returned (.int .u32 255) ∧ w' = W := (mask_any 8 (by decide) W).mono fun _ _ h => ⟨h.1, h.2.symm⟩
theorem sh_val (w x P : Nat) (A m h : Int) (hw : w ≤ 32) (hx : x < 2 ^ w) (hP : P < 2 ^ w) (hA : A = ((x * 2 % 4294967296 : Nat) : Int)) (hm : m = ((2 ^ w - 1 : Nat) : Int)) (hh : h = ((2 ^ (w - 1) : Nat) : Int)) :
    bits .xor .u32 (bits .and .u32 A m) ((P : Int) * bits .and .u32 ((x : Int) / h) 1 % 4294967296) = ((sh w P x : Nat) : Int) := by
  have h32 : (2 : Nat) ^ w ≤ 4294967296 := Nat.le_trans (Nat.pow_le_pow_right (by decide) hw) (by decide)
  have hpos : 0 < (2 : Nat) ^ w := Nat.two_pow_pos w
  have hd : (2 : Nat) ^ w ∣ 4294967296 := by rw [show 4294967296 = 2 ^ 32 from rfl]; exact Nat.pow_dvd_pow 2 hw
  have e1 : (x : Int) / ((2 ^ (w - 1) : Nat) : Int) = ((x / 2 ^ (w - 1) : Nat) : Int) := (Int.natCast_ediv x (2 ^ (w - 1))).symm
  have hq : x / 2 ^ (w - 1) < 4294967296 := Nat.lt_of_le_of_lt (Nat.div_le_self _ _) (by omega)
  rw [hA, hm, hh, e1, u32_and_nat _ _ (Nat.mod_lt _ (by decide)) (by omega), Nat.and_two_pow_sub_one_eq_mod, Nat.mod_mod_of_dvd _ hd, show (1 : Int) = ((1 : Nat) : Int) from rfl, u32_and_nat _ 1 hq (by decide), Nat.and_one_is_mod]
  unfold sh
  rcases (show x / 2 ^ (w - 1) % 2 = 0 ∨ x / 2 ^ (w - 1) % 2 = 1 by omega) with h | h
  · rw [h, show (P : Int) * ((0 : Nat) : Int) % 4294967296 = ((P * 0 : Nat) : Int) by omega, u32_xor_nat _ _ (Nat.lt_of_lt_of_le (Nat.mod_lt _ hpos) h32) (by omega)]
  · rw [h, show (P : Int) * ((1 : Nat) : Int) % 4294967296 = ((P * 1 : Nat) : Int) by omega, u32_xor_nat _ _ (Nat.lt_of_lt_of_le (Nat.mod_lt _ hpos) h32) (by omega)]
set_option maxRecDepth 100000 in
set_option maxHeartbeats 2000000 in
theorem step_32_false (P : Nat) (I O r c : Nat) (hP : P < 4294967296) (hr : r < 4294967296) (hc : c < 256) (W : World) :
    Calls Tryd.prog 91 #[Sm (32 : Nat) P false I O, .int .u32 r, .int .u8 c] W fun e w' => e = .returned (.int .u32 (stp 32 P false r c : Nat)) ∧ Below W.heap.size W w' := by
  unfold Sm
  have hrv : rv c 8 < 256 := rv_lt c 8
  have X0 : Hid (bits .xor .u32 (r : Int) ((c : Int) * 16777216) = ((r ^^^ (c * 2 ^ (32 - 8)) : Nat) : Int)) := Lib.hid (by
    rw [show (c : Int) * 16777216 = ((c * 2 ^ (32 - 8) : Nat) : Int) by omega, u32_xor_nat r _ (by omega) (by omega)])
  have hx0 : r ^^^ (c * 2 ^ (32 - 8)) < 2 ^ 32 := Nat.xor_lt_two_pow hr (by omega)
  go_enter Tryd.func91, Tryd.ntmps91
  go_wp2_with fail
  rw [X0.out]
  go_loopw [1, 22] (fun a i wr => ∃ k x : Nat, k ≤ 8 ∧ i = .int .i64 k ∧ a = .int .u32 x ∧ Hid (x = shs 32 P (r ^^^ (c * 2 ^ (32 - 8))) k) ∧ Hid (wr.cell? ⟨W.heap.size, 0, none⟩ = some (.int .i64 32)) ∧ Hid (wr.cell? ⟨W.heap.size, 1, none⟩ = some (.int .u32 P)) ∧ Hid (Below W.heap.size W wr)) (fun _ i _ => 8 - (intOf i).toNat)
  case atStart => exact ⟨0, _, by omega, rfl, rfl, Lib.hid rfl, Lib.hid (by simp), Lib.hid (by simp), Lib.hid ((Below.refl _ _).alloc (Nat.le_refl _) _)⟩
  case round =>
    obtain ⟨k, x, hk, rfl, rfl, hx, hA, hB, hBH⟩ := hrel
    have hxl : x < 4294967296 := by rw [hx.out]; exact shs_lt 32 P _ hP hx0 k
    by_cases hlt : k < 8
    · have hcA := hA.out
      have hcB := hB.out
      have V := Lib.hid (sh_val 32 x P ((x : Int) * 2 % 4294967296) 4294967295 2147483648 (by decide) hxl hP (by omega) (by decide) (by decide))
      go_wp2_with fail
      go_quiet ((go_at_call 93; exact Calls.quiet_of_same (mask32 _)))
      go_wp2_with fail
      go_roundw
      case rel => exact ⟨k + 1, sh 32 P x, by omega, by go_num, by rw [V.out], Lib.hid (by rw [hx.out]; rfl), hA, hB, Lib.hid (below_drewN hBH.out _)⟩
      case measure => simp [intOf]; omega
    · obtain rfl : k = 8 := by omega
      go_wp2_with fail
      go_ret
      exact ⟨by rw [hx.out]; rfl, hBH.out⟩
set_option maxRecDepth 100000 in
set_option maxHeartbeats 2000000 in
theorem step_32_true (P : Nat) (I O r c : Nat) (hP : P < 4294967296) (hr : r < 4294967296) (hc : c < 256) (W : World) :
    Calls Tryd.prog 91 #[Sm (32 : Nat) P true I O, .int .u32 r, .int .u8 c] W fun e w' => e = .returned (.int .u32 (stp 32 P true r c : Nat)) ∧ Below W.heap.size W w' := by
  unfold Sm
  have T := Lib.hid (turned_any c 8 (by decide) (by omega))
  have hrv : rv c 8 < 256 := rv_lt c 8
  have X0 : Hid (bits .xor .u32 (r : Int) (((rv c 8 : Nat) : Int) * 16777216) = ((r ^^^ ((rv c 8) * 2 ^ (32 - 8)) : Nat) : Int)) := Lib.hid (by
    rw [show ((rv c 8 : Nat) : Int) * 16777216 = (((rv c 8) * 2 ^ (32 - 8) : Nat) : Int) by omega, u32_xor_nat r _ (by omega) (by omega)])
  have hx0 : r ^^^ ((rv c 8) * 2 ^ (32 - 8)) < 2 ^ 32 := Nat.xor_lt_two_pow hr (by omega)
  go_enter Tryd.func91, Tryd.ntmps91
  go_wp2_with fail
  refine (T.out _).mono ?_; rintro e w' ⟨rfl, rfl⟩
  go_wp2_with fail
  rw [X0.out]
  go_loopw [1, 22] (fun a i wr => ∃ k x : Nat, k ≤ 8 ∧ i = .int .i64 k ∧ a = .int .u32 x ∧ Hid (x = shs 32 P (r ^^^ ((rv c 8) * 2 ^ (32 - 8))) k) ∧ Hid (wr.cell? ⟨W.heap.size, 0, none⟩ = some (.int .i64 32)) ∧ Hid (wr.cell? ⟨W.heap.size, 1, none⟩ = some (.int .u32 P)) ∧ Hid (Below W.heap.size W wr)) (fun _ i _ => 8 - (intOf i).toNat)
  case atStart => exact ⟨0, _, by omega, rfl, rfl, Lib.hid rfl, Lib.hid (by simp), Lib.hid (by simp), Lib.hid ((Below.refl _ _).alloc (Nat.le_refl _) _)⟩
  case round =>
    obtain ⟨k, x, hk, rfl, rfl, hx, hA, hB, hBH⟩ := hrel
    have hxl : x < 4294967296 := by rw [hx.out]; exact shs_lt 32 P _ hP hx0 k
    by_cases hlt : k < 8
    · have hcA := hA.out
      have hcB := hB.out
      have V := Lib.hid (sh_val 32 x P ((x : Int) * 2 % 4294967296) 4294967295 2147483648 (by decide) hxl hP (by omega) (by decide) (by decide))
      go_wp2_with fail
      go_quiet ((go_at_call 93; exact Calls.quiet_of_same (mask32 _)))
      go_wp2_with fail
      go_roundw
      case rel => exact ⟨k + 1, sh 32 P x, by omega, by go_num, by rw [V.out], Lib.hid (by rw [hx.out]; rfl), hA, hB, Lib.hid (below_drewN hBH.out _)⟩
      case measure => simp [intOf]; omega
    · obtain rfl : k = 8 := by omega
      go_wp2_with fail
      go_ret
      exact ⟨by rw [hx.out]; rfl, hBH.out⟩
set_option maxRecDepth 100000 in
set_option maxHeartbeats 2000000 in
theorem step_16_false (P : Nat) (I O r c : Nat) (hP : P < 65536) (hr : r < 65536) (hc : c < 256) (W : World) :
    Calls Tryd.prog 91 #[Sm (16 : Nat) P false I O, .int .u32 r, .int .u8 c] W fun e w' => e = .returned (.int .u32 (stp 16 P false r c : Nat)) ∧ Below W.heap.size W w' := by
  unfold Sm
  have hrv : rv c 8 < 256 := rv_lt c 8
  have X0 : Hid (bits .xor .u32 (r : Int) ((c : Int) * 256) = ((r ^^^ (c * 2 ^ (16 - 8)) : Nat) : Int)) := Lib.hid (by
    rw [show (c : Int) * 256 = ((c * 2 ^ (16 - 8) : Nat) : Int) by omega, u32_xor_nat r _ (by omega) (by omega)])
  have hx0 : r ^^^ (c * 2 ^ (16 - 8)) < 2 ^ 16 := Nat.xor_lt_two_pow hr (by omega)
  go_enter Tryd.func91, Tryd.ntmps91
  go_wp2_with fail
  rw [X0.out]
  go_loopw [1, 22] (fun a i wr => ∃ k x : Nat, k ≤ 8 ∧ i = .int .i64 k ∧ a = .int .u32 x ∧ Hid (x = shs 16 P (r ^^^ (c * 2 ^ (16 - 8))) k) ∧ Hid (wr.cell? ⟨W.heap.size, 0, none⟩ = some (.int .i64 16)) ∧ Hid (wr.cell? ⟨W.heap.size, 1, none⟩ = some (.int .u32 P)) ∧ Hid (Below W.heap.size W wr)) (fun _ i _ => 8 - (intOf i).toNat)
  case atStart => exact ⟨0, _, by omega, rfl, rfl, Lib.hid rfl, Lib.hid (by simp), Lib.hid (by simp), Lib.hid ((Below.refl _ _).alloc (Nat.le_refl _) _)⟩
  case round =>
    obtain ⟨k, x, hk, rfl, rfl, hx, hA, hB, hBH⟩ := hrel
    have hxl : x < 65536 := by rw [hx.out]; exact shs_lt 16 P _ hP hx0 k
    by_cases hlt : k < 8
    · have hcA := hA.out
      have hcB := hB.out
      have V := Lib.hid (sh_val 16 x P ((x : Int) * 2) 65535 32768 (by decide) hxl hP (by omega) (by decide) (by decide))
      go_wp2_with fail
      go_quiet ((go_at_call 93; exact Calls.quiet_of_same (mask16 _)))
      go_wp2_with fail
      go_roundw
      case rel => exact ⟨k + 1, sh 16 P x, by omega, by go_num, by rw [V.out], Lib.hid (by rw [hx.out]; rfl), hA, hB, Lib.hid (below_drewN hBH.out _)⟩
      case measure => simp [intOf]; omega
    · obtain rfl : k = 8 := by omega
      go_wp2_with fail
      go_ret
      exact ⟨by rw [hx.out]; rfl, hBH.out⟩
set_option maxRecDepth 100000 in
set_option maxHeartbeats 2000000 in
theorem step_16_true (P : Nat) (I O r c : Nat) (hP : P < 65536) (hr : r < 65536) (hc : c < 256) (W : World) :
    Calls Tryd.prog 91 #[Sm (16 : Nat) P true I O, .int .u32 r, .int .u8 c] W fun e w' => e = .returned (.int .u32 (stp 16 P true r c : Nat)) ∧ Below W.heap.size W w' := by
  unfold Sm
  have T := Lib.hid (turned_any c 8 (by decide) (by omega))
  have hrv : rv c 8 < 256 := rv_lt c 8
  have X0 : Hid (bits .xor .u32 (r : Int) (((rv c 8 : Nat) : Int) * 256) = ((r ^^^ ((rv c 8) * 2 ^ (16 - 8)) : Nat) : Int)) := Lib.hid (by
    rw [show ((rv c 8 : Nat) : Int) * 256 = (((rv c 8) * 2 ^ (16 - 8) : Nat) : Int) by omega, u32_xor_nat r _ (by omega) (by omega)])
  have hx0 : r ^^^ ((rv c 8) * 2 ^ (16 - 8)) < 2 ^ 16 := Nat.xor_lt_two_pow hr (by omega)
  go_enter Tryd.func91, Tryd.ntmps91
  go_wp2_with fail
  refine (T.out _).mono ?_; rintro e w' ⟨rfl, rfl⟩
  go_wp2_with fail
  rw [X0.out]
  go_loopw [1, 22] (fun a i wr => ∃ k x : Nat, k ≤ 8 ∧ i = .int .i64 k ∧ a = .int .u32 x ∧ Hid (x = shs 16 P (r ^^^ ((rv c 8) * 2 ^ (16 - 8))) k) ∧ Hid (wr.cell? ⟨W.heap.size, 0, none⟩ = some (.int .i64 16)) ∧ Hid (wr.cell? ⟨W.heap.size, 1, none⟩ = some (.int .u32 P)) ∧ Hid (Below W.heap.size W wr)) (fun _ i _ => 8 - (intOf i).toNat)
  case atStart => exact ⟨0, _, by omega, rfl, rfl, Lib.hid rfl, Lib.hid (by simp), Lib.hid (by simp), Lib.hid ((Below.refl _ _).alloc (Nat.le_refl _) _)⟩
  case round =>
    obtain ⟨k, x, hk, rfl, rfl, hx, hA, hB, hBH⟩ := hrel
    have hxl : x < 65536 := by rw [hx.out]; exact shs_lt 16 P _ hP hx0 k
    by_cases hlt : k < 8
    · have hcA := hA.out
      have hcB := hB.out
      have V := Lib.hid (sh_val 16 x P ((x : Int) * 2) 65535 32768 (by decide) hxl hP (by omega) (by decide) (by decide))
      go_wp2_with fail
      go_quiet ((go_at_call 93; exact Calls.quiet_of_same (mask16 _)))
      go_wp2_with fail
      go_roundw
      case rel => exact ⟨k + 1, sh 16 P x, by omega, by go_num, by rw [V.out], Lib.hid (by rw [hx.out]; rfl), hA, hB, Lib.hid (below_drewN hBH.out _)⟩
      case measure => simp [intOf]; omega
    · obtain rfl : k = 8 := by omega
      go_wp2_with fail
      go_ret
      exact ⟨by rw [hx.out]; rfl, hBH.out⟩
set_option maxRecDepth 100000 in
set_option maxHeartbeats 2000000 in
theorem step_8_false (P : Nat) (I O r c : Nat) (hP : P < 256) (hr : r < 256) (hc : c < 256) (W : World) :
    Calls Tryd.prog 91 #[Sm (8 : Nat) P false I O, .int .u32 r, .int .u8 c] W fun e w' => e = .returned (.int .u32 (stp 8 P false r c : Nat)) ∧ Below W.heap.size W w' := by
  unfold Sm
  have hrv : rv c 8 < 256 := rv_lt c 8
  have X0 : Hid (bits .xor .u32 (r : Int) ((c : Int)) = ((r ^^^ (c * 2 ^ (8 - 8)) : Nat) : Int)) := Lib.hid (by
    rw [show (c : Int) = ((c * 2 ^ (8 - 8) : Nat) : Int) by omega, u32_xor_nat r _ (by omega) (by omega)])
  have hx0 : r ^^^ (c * 2 ^ (8 - 8)) < 2 ^ 8 := Nat.xor_lt_two_pow hr (by omega)
  go_enter Tryd.func91, Tryd.ntmps91
  go_wp2_with fail
  rw [X0.out]
  go_loopw [1, 22] (fun a i wr => ∃ k x : Nat, k ≤ 8 ∧ i = .int .i64 k ∧ a = .int .u32 x ∧ Hid (x = shs 8 P (r ^^^ (c * 2 ^ (8 - 8))) k) ∧ Hid (wr.cell? ⟨W.heap.size, 0, none⟩ = some (.int .i64 8)) ∧ Hid (wr.cell? ⟨W.heap.size, 1, none⟩ = some (.int .u32 P)) ∧ Hid (Below W.heap.size W wr)) (fun _ i _ => 8 - (intOf i).toNat)
  case atStart => exact ⟨0, _, by omega, rfl, rfl, Lib.hid rfl, Lib.hid (by simp), Lib.hid (by simp), Lib.hid ((Below.refl _ _).alloc (Nat.le_refl _) _)⟩
  case round =>
    obtain ⟨k, x, hk, rfl, rfl, hx, hA, hB, hBH⟩ := hrel
    have hxl : x < 256 := by rw [hx.out]; exact shs_lt 8 P _ hP hx0 k
    by_cases hlt : k < 8
    · have hcA := hA.out
      have hcB := hB.out
      have V := Lib.hid (sh_val 8 x P ((x : Int) * 2) 255 128 (by decide) hxl hP (by omega) (by decide) (by decide))
      go_wp2_with fail
      go_quiet ((go_at_call 93; exact Calls.quiet_of_same (mask8 _)))
      go_wp2_with fail
      go_roundw
      case rel => exact ⟨k + 1, sh 8 P x, by omega, by go_num, by rw [V.out], Lib.hid (by rw [hx.out]; rfl), hA, hB, Lib.hid (below_drewN hBH.out _)⟩
      case measure => simp [intOf]; omega
    · obtain rfl : k = 8 := by omega
      go_wp2_with fail
      go_ret
      exact ⟨by rw [hx.out]; rfl, hBH.out⟩
set_option maxRecDepth 100000 in
set_option maxHeartbeats 2000000 in
theorem step_8_true (P : Nat) (I O r c : Nat) (hP : P < 256) (hr : r < 256) (hc : c < 256) (W : World) :
    Calls Tryd.prog 91 #[Sm (8 : Nat) P true I O, .int .u32 r, .int .u8 c] W fun e w' => e = .returned (.int .u32 (stp 8 P true r c : Nat)) ∧ Below W.heap.size W w' := by
  unfold Sm
  have T := Lib.hid (turned_any c 8 (by decide) (by omega))
  have hrv : rv c 8 < 256 := rv_lt c 8
  have X0 : Hid (bits .xor .u32 (r : Int) (((rv c 8 : Nat) : Int)) = ((r ^^^ ((rv c 8) * 2 ^ (8 - 8)) : Nat) : Int)) := Lib.hid (by
    rw [show ((rv c 8 : Nat) : Int) = (((rv c 8) * 2 ^ (8 - 8) : Nat) : Int) by omega, u32_xor_nat r _ (by omega) (by omega)])
  have hx0 : r ^^^ ((rv c 8) * 2 ^ (8 - 8)) < 2 ^ 8 := Nat.xor_lt_two_pow hr (by omega)
  go_enter Tryd.func91, Tryd.ntmps91
  go_wp2_with fail
  refine (T.out _).mono ?_; rintro e w' ⟨rfl, rfl⟩
  go_wp2_with fail
  rw [X0.out]
  go_loopw [1, 22] (fun a i wr => ∃ k x : Nat, k ≤ 8 ∧ i = .int .i64 k ∧ a = .int .u32 x ∧ Hid (x = shs 8 P (r ^^^ ((rv c 8) * 2 ^ (8 - 8))) k) ∧ Hid (wr.cell? ⟨W.heap.size, 0, none⟩ = some (.int .i64 8)) ∧ Hid (wr.cell? ⟨W.heap.size, 1, none⟩ = some (.int .u32 P)) ∧ Hid (Below W.heap.size W wr)) (fun _ i _ => 8 - (intOf i).toNat)
  case atStart => exact ⟨0, _, by omega, rfl, rfl, Lib.hid rfl, Lib.hid (by simp), Lib.hid (by simp), Lib.hid ((Below.refl _ _).alloc (Nat.le_refl _) _)⟩
  case round =>
    obtain ⟨k, x, hk, rfl, rfl, hx, hA, hB, hBH⟩ := hrel
    have hxl : x < 256 := by rw [hx.out]; exact shs_lt 8 P _ hP hx0 k
    by_cases hlt : k < 8
    · have hcA := hA.out
      have hcB := hB.out
      have V := Lib.hid (sh_val 8 x P ((x : Int) * 2) 255 128 (by decide) hxl hP (by omega) (by decide) (by decide))
      go_wp2_with fail
      go_quiet ((go_at_call 93; exact Calls.quiet_of_same (mask8 _)))
      go_wp2_with fail
      go_roundw
      case rel => exact ⟨k + 1, sh 8 P x, by omega, by go_num, by rw [V.out], Lib.hid (by rw [hx.out]; rfl), hA, hB, Lib.hid (below_drewN hBH.out _)⟩
      case measure => simp [intOf]; omega
    · obtain rfl : k = 8 := by omega
      go_wp2_with fail
      go_ret
      exact ⟨by rw [hx.out]; rfl, hBH.out⟩
end Go.Proofs.YtifnochpmlllgaaDoor.Sum
