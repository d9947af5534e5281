/-
  PROVED HERE: real.Narrow where the fraction is rounded, its numbers by their names. Conditions: as each theorem states.
-/
import Derived.Test.YtdlphcfmbhhfgaaRnN
namespace Go.Proofs.Ytdlphcfmbhhfgaa.Rn
open Go.RowKit Real
set_option maxRecDepth 20000 in
set_option maxHeartbeats 2000000 in
theorem low_gt (b e d c j : Nat) (m q r h t : Int) (N : Bool) (s : Int) (hb : b < 18446744073709551616) (hN : neg64 (b : Int) = N) (hs : (b : Int) / 9223372036854775808 * 2147483648 = s) (he : exp64 (b : Int) = (e : Int)) (hor : bits .or .u64 (frac64 (b : Int)) 4503599627370496 = m)
    (i1 : ¬ (e : Int) < 800) (i2 : ((e : Int) == 2047) = false)
    (i3 : (e : Int) - 1023 + 127 = -(j : Int)) (i4 : (29 : Int) + (1 + (j : Int)) = (d : Int)) (i5 : ¬ (60 : Int) < (d : Int)) (i6 : (d : Int) - 1 = (c : Int)) (i7 : c < 64) (i8 : d < 64)
    (k1 : IntKind.u64.wrap (2 ^ c) = h) (k2 : m / 2 ^ d = q) (k3 : bits .and .u64 m (IntKind.u64.wrap (IntKind.u64.wrap (h * 2) - 1)) = r) (k4 : bits .and .u64 q 1 = t) (q0 : 0 ≤ q) (q1 : q < 16777216) (g1 : h < r) (W : World) :
    Calls Try.prog 4 #[.int .u64 (b : Int)] W fun x w' => x = .returned (.int .u32 (bits .or .u32 s (q + 1))) ∧ Below W.heap.size W w' := by
  have C := Lib.hid (fun W => apart_64 (b : Int) (by omega) (by omega) W)
  rw [he, hN] at C
  generalize frac64 (b : Int) = f at *
  clear hN he
  go_enter Try.func4, Try.ntmps4
  go_wp2_with fail
  refine (C.out _).mono ?_; rintro x w1 ⟨rfl, h1⟩
  have H1 := Lib.hid h1
  clear h1
  go_wp2_with fail
  go_quiet (fail)
  go_wp2_with fail
  go_ret
  exact ⟨rfl, below_drewN (H1.out.alloc H1.out.size _) _⟩
set_option maxRecDepth 20000 in
set_option maxHeartbeats 2000000 in
theorem high_gt_in (b e : Nat) (m q r t J z : Int) (N : Bool) (s : Int) (hb : b < 18446744073709551616) (hN : neg64 (b : Int) = N) (hs : (b : Int) / 9223372036854775808 * 2147483648 = s) (he : exp64 (b : Int) = (e : Int)) (hor : bits .or .u64 (frac64 (b : Int)) 4503599627370496 = m)
    (i1 : ¬ (e : Int) < 800) (i2 : ((e : Int) == 2047) = false)
    (i3 : (e : Int) - 1023 + 127 = J) (i4 : 0 < J) (i5 : J - 1 = z) (i6 : z ≤ 1149) (i7 : 0 ≤ z)
    (k2 : m / 536870912 = q) (k3 : bits .and .u64 m 536870911 = r) (k4 : bits .and .u64 q 1 = t) (q0 : 0 ≤ q) (q1 : q < 16777216) (g1 : (268435456 : Int) < r) (f1 : ¬ (2139095040 : Int) ≤ q + 1 + z * 8388608) (W : World) :
    Calls Try.prog 4 #[.int .u64 (b : Int)] W fun x w' => x = .returned (.int .u32 (bits .or .u32 s (q + 1 + z * 8388608))) ∧ Below W.heap.size W w' := by
  have C := Lib.hid (fun W => apart_64 (b : Int) (by omega) (by omega) W)
  rw [he, hN] at C
  generalize frac64 (b : Int) = f at *
  clear hN he
  go_enter Try.func4, Try.ntmps4
  go_wp2_with fail
  refine (C.out _).mono ?_; rintro x w1 ⟨rfl, h1⟩
  have H1 := Lib.hid h1
  clear h1
  go_wp2_with fail
  go_quiet (fail)
  go_wp2_with fail
  go_ret
  exact ⟨rfl, below_drewN (H1.out.alloc H1.out.size _) _⟩
set_option maxRecDepth 20000 in
set_option maxHeartbeats 2000000 in
theorem high_gt_up (b e : Nat) (m q r t J z : Int) (N : Bool) (s : Int) (hb : b < 18446744073709551616) (hN : neg64 (b : Int) = N) (hs : (b : Int) / 9223372036854775808 * 2147483648 = s) (he : exp64 (b : Int) = (e : Int)) (hor : bits .or .u64 (frac64 (b : Int)) 4503599627370496 = m)
    (i1 : ¬ (e : Int) < 800) (i2 : ((e : Int) == 2047) = false)
    (i3 : (e : Int) - 1023 + 127 = J) (i4 : 0 < J) (i5 : J - 1 = z) (i6 : z ≤ 1149) (i7 : 0 ≤ z)
    (k2 : m / 536870912 = q) (k3 : bits .and .u64 m 536870911 = r) (k4 : bits .and .u64 q 1 = t) (q0 : 0 ≤ q) (q1 : q < 16777216) (g1 : (268435456 : Int) < r) (f1 : (2139095040 : Int) ≤ q + 1 + z * 8388608) (W : World) :
    Calls Try.prog 4 #[.int .u64 (b : Int)] W fun x w' => x = .returned (.int .u32 (bits .or .u32 s (2139095040))) ∧ Below W.heap.size W w' := by
  have C := Lib.hid (fun W => apart_64 (b : Int) (by omega) (by omega) W)
  rw [he, hN] at C
  generalize frac64 (b : Int) = f at *
  clear hN he
  go_enter Try.func4, Try.ntmps4
  go_wp2_with fail
  refine (C.out _).mono ?_; rintro x w1 ⟨rfl, h1⟩
  have H1 := Lib.hid h1
  clear h1
  go_wp2_with fail
  go_quiet (fail)
  go_wp2_with fail
  go_ret
  exact ⟨rfl, below_drewN (H1.out.alloc H1.out.size _) _⟩
set_option maxRecDepth 20000 in
set_option maxHeartbeats 2000000 in
theorem low_odd (b e d c j : Nat) (m q r h t : Int) (N : Bool) (s : Int) (hb : b < 18446744073709551616) (hN : neg64 (b : Int) = N) (hs : (b : Int) / 9223372036854775808 * 2147483648 = s) (he : exp64 (b : Int) = (e : Int)) (hor : bits .or .u64 (frac64 (b : Int)) 4503599627370496 = m)
    (i1 : ¬ (e : Int) < 800) (i2 : ((e : Int) == 2047) = false)
    (i3 : (e : Int) - 1023 + 127 = -(j : Int)) (i4 : (29 : Int) + (1 + (j : Int)) = (d : Int)) (i5 : ¬ (60 : Int) < (d : Int)) (i6 : (d : Int) - 1 = (c : Int)) (i7 : c < 64) (i8 : d < 64)
    (k1 : IntKind.u64.wrap (2 ^ c) = h) (k2 : m / 2 ^ d = q) (k3 : bits .and .u64 m (IntKind.u64.wrap (IntKind.u64.wrap (h * 2) - 1)) = r) (k4 : bits .and .u64 q 1 = t) (q0 : 0 ≤ q) (q1 : q < 16777216) (g1 : ¬ h < r) (g2 : (r == h) = true) (g3 : (t == 1) = true) (W : World) :
    Calls Try.prog 4 #[.int .u64 (b : Int)] W fun x w' => x = .returned (.int .u32 (bits .or .u32 s (q + 1))) ∧ Below W.heap.size W w' := by
  have C := Lib.hid (fun W => apart_64 (b : Int) (by omega) (by omega) W)
  rw [he, hN] at C
  generalize frac64 (b : Int) = f at *
  clear hN he
  go_enter Try.func4, Try.ntmps4
  go_wp2_with fail
  refine (C.out _).mono ?_; rintro x w1 ⟨rfl, h1⟩
  have H1 := Lib.hid h1
  clear h1
  go_wp2_with fail
  go_quiet (fail)
  go_wp2_with fail
  go_ret
  exact ⟨rfl, below_drewN (H1.out.alloc H1.out.size _) _⟩
set_option maxRecDepth 20000 in
set_option maxHeartbeats 2000000 in
theorem high_odd_in (b e : Nat) (m q r t J z : Int) (N : Bool) (s : Int) (hb : b < 18446744073709551616) (hN : neg64 (b : Int) = N) (hs : (b : Int) / 9223372036854775808 * 2147483648 = s) (he : exp64 (b : Int) = (e : Int)) (hor : bits .or .u64 (frac64 (b : Int)) 4503599627370496 = m)
    (i1 : ¬ (e : Int) < 800) (i2 : ((e : Int) == 2047) = false)
    (i3 : (e : Int) - 1023 + 127 = J) (i4 : 0 < J) (i5 : J - 1 = z) (i6 : z ≤ 1149) (i7 : 0 ≤ z)
    (k2 : m / 536870912 = q) (k3 : bits .and .u64 m 536870911 = r) (k4 : bits .and .u64 q 1 = t) (q0 : 0 ≤ q) (q1 : q < 16777216) (g1 : ¬ (268435456 : Int) < r) (g2 : (r == 268435456) = true) (g3 : (t == 1) = true) (f1 : ¬ (2139095040 : Int) ≤ q + 1 + z * 8388608) (W : World) :
    Calls Try.prog 4 #[.int .u64 (b : Int)] W fun x w' => x = .returned (.int .u32 (bits .or .u32 s (q + 1 + z * 8388608))) ∧ Below W.heap.size W w' := by
  have C := Lib.hid (fun W => apart_64 (b : Int) (by omega) (by omega) W)
  rw [he, hN] at C
  generalize frac64 (b : Int) = f at *
  clear hN he
  go_enter Try.func4, Try.ntmps4
  go_wp2_with fail
  refine (C.out _).mono ?_; rintro x w1 ⟨rfl, h1⟩
  have H1 := Lib.hid h1
  clear h1
  go_wp2_with fail
  go_quiet (fail)
  go_wp2_with fail
  go_ret
  exact ⟨rfl, below_drewN (H1.out.alloc H1.out.size _) _⟩
set_option maxRecDepth 20000 in
set_option maxHeartbeats 2000000 in
theorem high_odd_up (b e : Nat) (m q r t J z : Int) (N : Bool) (s : Int) (hb : b < 18446744073709551616) (hN : neg64 (b : Int) = N) (hs : (b : Int) / 9223372036854775808 * 2147483648 = s) (he : exp64 (b : Int) = (e : Int)) (hor : bits .or .u64 (frac64 (b : Int)) 4503599627370496 = m)
    (i1 : ¬ (e : Int) < 800) (i2 : ((e : Int) == 2047) = false)
    (i3 : (e : Int) - 1023 + 127 = J) (i4 : 0 < J) (i5 : J - 1 = z) (i6 : z ≤ 1149) (i7 : 0 ≤ z)
    (k2 : m / 536870912 = q) (k3 : bits .and .u64 m 536870911 = r) (k4 : bits .and .u64 q 1 = t) (q0 : 0 ≤ q) (q1 : q < 16777216) (g1 : ¬ (268435456 : Int) < r) (g2 : (r == 268435456) = true) (g3 : (t == 1) = true) (f1 : (2139095040 : Int) ≤ q + 1 + z * 8388608) (W : World) :
    Calls Try.prog 4 #[.int .u64 (b : Int)] W fun x w' => x = .returned (.int .u32 (bits .or .u32 s (2139095040))) ∧ Below W.heap.size W w' := by
  have C := Lib.hid (fun W => apart_64 (b : Int) (by omega) (by omega) W)
  rw [he, hN] at C
  generalize frac64 (b : Int) = f at *
  clear hN he
  go_enter Try.func4, Try.ntmps4
  go_wp2_with fail
  refine (C.out _).mono ?_; rintro x w1 ⟨rfl, h1⟩
  have H1 := Lib.hid h1
  clear h1
  go_wp2_with fail
  go_quiet (fail)
  go_wp2_with fail
  go_ret
  exact ⟨rfl, below_drewN (H1.out.alloc H1.out.size _) _⟩
set_option maxRecDepth 20000 in
set_option maxHeartbeats 2000000 in
theorem low_even (b e d c j : Nat) (m q r h t : Int) (N : Bool) (s : Int) (hb : b < 18446744073709551616) (hN : neg64 (b : Int) = N) (hs : (b : Int) / 9223372036854775808 * 2147483648 = s) (he : exp64 (b : Int) = (e : Int)) (hor : bits .or .u64 (frac64 (b : Int)) 4503599627370496 = m)
    (i1 : ¬ (e : Int) < 800) (i2 : ((e : Int) == 2047) = false)
    (i3 : (e : Int) - 1023 + 127 = -(j : Int)) (i4 : (29 : Int) + (1 + (j : Int)) = (d : Int)) (i5 : ¬ (60 : Int) < (d : Int)) (i6 : (d : Int) - 1 = (c : Int)) (i7 : c < 64) (i8 : d < 64)
    (k1 : IntKind.u64.wrap (2 ^ c) = h) (k2 : m / 2 ^ d = q) (k3 : bits .and .u64 m (IntKind.u64.wrap (IntKind.u64.wrap (h * 2) - 1)) = r) (k4 : bits .and .u64 q 1 = t) (q0 : 0 ≤ q) (q1 : q < 16777216) (g1 : ¬ h < r) (g2 : (r == h) = true) (g3 : (t == 1) = false) (W : World) :
    Calls Try.prog 4 #[.int .u64 (b : Int)] W fun x w' => x = .returned (.int .u32 (bits .or .u32 s (q))) ∧ Below W.heap.size W w' := by
  have C := Lib.hid (fun W => apart_64 (b : Int) (by omega) (by omega) W)
  rw [he, hN] at C
  generalize frac64 (b : Int) = f at *
  clear hN he
  go_enter Try.func4, Try.ntmps4
  go_wp2_with fail
  refine (C.out _).mono ?_; rintro x w1 ⟨rfl, h1⟩
  have H1 := Lib.hid h1
  clear h1
  go_wp2_with fail
  go_quiet (fail)
  go_wp2_with fail
  go_ret
  exact ⟨rfl, below_drewN (H1.out.alloc H1.out.size _) _⟩
set_option maxRecDepth 20000 in
set_option maxHeartbeats 2000000 in
theorem high_even_in (b e : Nat) (m q r t J z : Int) (N : Bool) (s : Int) (hb : b < 18446744073709551616) (hN : neg64 (b : Int) = N) (hs : (b : Int) / 9223372036854775808 * 2147483648 = s) (he : exp64 (b : Int) = (e : Int)) (hor : bits .or .u64 (frac64 (b : Int)) 4503599627370496 = m)
    (i1 : ¬ (e : Int) < 800) (i2 : ((e : Int) == 2047) = false)
    (i3 : (e : Int) - 1023 + 127 = J) (i4 : 0 < J) (i5 : J - 1 = z) (i6 : z ≤ 1149) (i7 : 0 ≤ z)
    (k2 : m / 536870912 = q) (k3 : bits .and .u64 m 536870911 = r) (k4 : bits .and .u64 q 1 = t) (q0 : 0 ≤ q) (q1 : q < 16777216) (g1 : ¬ (268435456 : Int) < r) (g2 : (r == 268435456) = true) (g3 : (t == 1) = false) (f1 : ¬ (2139095040 : Int) ≤ q + z * 8388608) (W : World) :
    Calls Try.prog 4 #[.int .u64 (b : Int)] W fun x w' => x = .returned (.int .u32 (bits .or .u32 s (q + z * 8388608))) ∧ Below W.heap.size W w' := by
  have C := Lib.hid (fun W => apart_64 (b : Int) (by omega) (by omega) W)
  rw [he, hN] at C
  generalize frac64 (b : Int) = f at *
  clear hN he
  go_enter Try.func4, Try.ntmps4
  go_wp2_with fail
  refine (C.out _).mono ?_; rintro x w1 ⟨rfl, h1⟩
  have H1 := Lib.hid h1
  clear h1
  go_wp2_with fail
  go_quiet (fail)
  go_wp2_with fail
  go_ret
  exact ⟨rfl, below_drewN (H1.out.alloc H1.out.size _) _⟩
set_option maxRecDepth 20000 in
set_option maxHeartbeats 2000000 in
theorem high_even_up (b e : Nat) (m q r t J z : Int) (N : Bool) (s : Int) (hb : b < 18446744073709551616) (hN : neg64 (b : Int) = N) (hs : (b : Int) / 9223372036854775808 * 2147483648 = s) (he : exp64 (b : Int) = (e : Int)) (hor : bits .or .u64 (frac64 (b : Int)) 4503599627370496 = m)
    (i1 : ¬ (e : Int) < 800) (i2 : ((e : Int) == 2047) = false)
    (i3 : (e : Int) - 1023 + 127 = J) (i4 : 0 < J) (i5 : J - 1 = z) (i6 : z ≤ 1149) (i7 : 0 ≤ z)
    (k2 : m / 536870912 = q) (k3 : bits .and .u64 m 536870911 = r) (k4 : bits .and .u64 q 1 = t) (q0 : 0 ≤ q) (q1 : q < 16777216) (g1 : ¬ (268435456 : Int) < r) (g2 : (r == 268435456) = true) (g3 : (t == 1) = false) (f1 : (2139095040 : Int) ≤ q + z * 8388608) (W : World) :
    Calls Try.prog 4 #[.int .u64 (b : Int)] W fun x w' => x = .returned (.int .u32 (bits .or .u32 s (2139095040))) ∧ Below W.heap.size W w' := by
  have C := Lib.hid (fun W => apart_64 (b : Int) (by omega) (by omega) W)
  rw [he, hN] at C
  generalize frac64 (b : Int) = f at *
  clear hN he
  go_enter Try.func4, Try.ntmps4
  go_wp2_with fail
  refine (C.out _).mono ?_; rintro x w1 ⟨rfl, h1⟩
  have H1 := Lib.hid h1
  clear h1
  go_wp2_with fail
  go_quiet (fail)
  go_wp2_with fail
  go_ret
  exact ⟨rfl, below_drewN (H1.out.alloc H1.out.size _) _⟩
set_option maxRecDepth 20000 in
set_option maxHeartbeats 2000000 in
theorem low_lt (b e d c j : Nat) (m q r h t : Int) (N : Bool) (s : Int) (hb : b < 18446744073709551616) (hN : neg64 (b : Int) = N) (hs : (b : Int) / 9223372036854775808 * 2147483648 = s) (he : exp64 (b : Int) = (e : Int)) (hor : bits .or .u64 (frac64 (b : Int)) 4503599627370496 = m)
    (i1 : ¬ (e : Int) < 800) (i2 : ((e : Int) == 2047) = false)
    (i3 : (e : Int) - 1023 + 127 = -(j : Int)) (i4 : (29 : Int) + (1 + (j : Int)) = (d : Int)) (i5 : ¬ (60 : Int) < (d : Int)) (i6 : (d : Int) - 1 = (c : Int)) (i7 : c < 64) (i8 : d < 64)
    (k1 : IntKind.u64.wrap (2 ^ c) = h) (k2 : m / 2 ^ d = q) (k3 : bits .and .u64 m (IntKind.u64.wrap (IntKind.u64.wrap (h * 2) - 1)) = r) (k4 : bits .and .u64 q 1 = t) (q0 : 0 ≤ q) (q1 : q < 16777216) (g1 : ¬ h < r) (g2 : (r == h) = false) (W : World) :
    Calls Try.prog 4 #[.int .u64 (b : Int)] W fun x w' => x = .returned (.int .u32 (bits .or .u32 s (q))) ∧ Below W.heap.size W w' := by
  have C := Lib.hid (fun W => apart_64 (b : Int) (by omega) (by omega) W)
  rw [he, hN] at C
  generalize frac64 (b : Int) = f at *
  clear hN he
  go_enter Try.func4, Try.ntmps4
  go_wp2_with fail
  refine (C.out _).mono ?_; rintro x w1 ⟨rfl, h1⟩
  have H1 := Lib.hid h1
  clear h1
  go_wp2_with fail
  go_quiet (fail)
  go_wp2_with fail
  go_ret
  exact ⟨rfl, below_drewN (H1.out.alloc H1.out.size _) _⟩
set_option maxRecDepth 20000 in
set_option maxHeartbeats 2000000 in
theorem high_lt_in (b e : Nat) (m q r t J z : Int) (N : Bool) (s : Int) (hb : b < 18446744073709551616) (hN : neg64 (b : Int) = N) (hs : (b : Int) / 9223372036854775808 * 2147483648 = s) (he : exp64 (b : Int) = (e : Int)) (hor : bits .or .u64 (frac64 (b : Int)) 4503599627370496 = m)
    (i1 : ¬ (e : Int) < 800) (i2 : ((e : Int) == 2047) = false)
    (i3 : (e : Int) - 1023 + 127 = J) (i4 : 0 < J) (i5 : J - 1 = z) (i6 : z ≤ 1149) (i7 : 0 ≤ z)
    (k2 : m / 536870912 = q) (k3 : bits .and .u64 m 536870911 = r) (k4 : bits .and .u64 q 1 = t) (q0 : 0 ≤ q) (q1 : q < 16777216) (g1 : ¬ (268435456 : Int) < r) (g2 : (r == 268435456) = false) (f1 : ¬ (2139095040 : Int) ≤ q + z * 8388608) (W : World) :
    Calls Try.prog 4 #[.int .u64 (b : Int)] W fun x w' => x = .returned (.int .u32 (bits .or .u32 s (q + z * 8388608))) ∧ Below W.heap.size W w' := by
  have C := Lib.hid (fun W => apart_64 (b : Int) (by omega) (by omega) W)
  rw [he, hN] at C
  generalize frac64 (b : Int) = f at *
  clear hN he
  go_enter Try.func4, Try.ntmps4
  go_wp2_with fail
  refine (C.out _).mono ?_; rintro x w1 ⟨rfl, h1⟩
  have H1 := Lib.hid h1
  clear h1
  go_wp2_with fail
  go_quiet (fail)
  go_wp2_with fail
  go_ret
  exact ⟨rfl, below_drewN (H1.out.alloc H1.out.size _) _⟩
set_option maxRecDepth 20000 in
set_option maxHeartbeats 2000000 in
theorem high_lt_up (b e : Nat) (m q r t J z : Int) (N : Bool) (s : Int) (hb : b < 18446744073709551616) (hN : neg64 (b : Int) = N) (hs : (b : Int) / 9223372036854775808 * 2147483648 = s) (he : exp64 (b : Int) = (e : Int)) (hor : bits .or .u64 (frac64 (b : Int)) 4503599627370496 = m)
    (i1 : ¬ (e : Int) < 800) (i2 : ((e : Int) == 2047) = false)
    (i3 : (e : Int) - 1023 + 127 = J) (i4 : 0 < J) (i5 : J - 1 = z) (i6 : z ≤ 1149) (i7 : 0 ≤ z)
    (k2 : m / 536870912 = q) (k3 : bits .and .u64 m 536870911 = r) (k4 : bits .and .u64 q 1 = t) (q0 : 0 ≤ q) (q1 : q < 16777216) (g1 : ¬ (268435456 : Int) < r) (g2 : (r == 268435456) = false) (f1 : (2139095040 : Int) ≤ q + z * 8388608) (W : World) :
    Calls Try.prog 4 #[.int .u64 (b : Int)] W fun x w' => x = .returned (.int .u32 (bits .or .u32 s (2139095040))) ∧ Below W.heap.size W w' := by
  have C := Lib.hid (fun W => apart_64 (b : Int) (by omega) (by omega) W)
  rw [he, hN] at C
  generalize frac64 (b : Int) = f at *
  clear hN he
  go_enter Try.func4, Try.ntmps4
  go_wp2_with fail
  refine (C.out _).mono ?_; rintro x w1 ⟨rfl, h1⟩
  have H1 := Lib.hid h1
  clear h1
  go_wp2_with fail
  go_quiet (fail)
  go_wp2_with fail
  go_ret
  exact ⟨rfl, below_drewN (H1.out.alloc H1.out.size _) _⟩
end Go.Proofs.Ytdlphcfmbhhfgaa.Rn
