/-
  PROVED HERE: the contract of real.Narrow. Conditions: as each theorem states.
-/
import Derived.Test.YtdlphcfmbhhfgaaRows
import Derived.Test.YtdlphcfmbhhfgaaRnB
import Derived.Test.YtdlphcfmbhhfgaaRealB
import Derived.BigQuiet
import Derived.Deep.QuietTactic
import Derived.Deep.RegionWith
namespace Go.Proofs.Ytdlphcfmbhhfgaa.Rn
open Go.RowKit Real
set_option maxRecDepth 100000 in
set_option maxHeartbeats 2000000 in
theorem narrow_inf (b : Nat) (N : Bool) (s : Int) (hb : b < 18446744073709551616) (hN : neg64 (b : Int) = N) (hs : (b : Int) / 9223372036854775808 * 2147483648 = s) (he : exp64 (b : Int) = 2047) (hf : frac64 (b : Int) = 0) (W : World) :
    Calls Try.prog 4 #[.int .u64 (b : Int)] W fun x w' => x = .returned (.int .u32 (bits .or .u32 s 2139095040)) ∧ Below W.heap.size W w' := by
  have C := Lib.hid (fun W => apart_64 (b : Int) (by omega) (by omega) W)
  rw [he, hN] at C
  rw [hf] at C
  clear hN he hf
  go_enter Try.func4, Try.ntmps4
  go_wp2_with fail
  refine (C.out _).mono ?_; rintro x w1 ⟨rfl, h1⟩
  have H1 := Lib.hid h1
  clear h1
  go_wp2_with fail
  go_ret
  exact ⟨rfl, H1.out.alloc H1.out.size _⟩
set_option maxRecDepth 100000 in
set_option maxHeartbeats 2000000 in
theorem narrow_nan (b f : Nat) (N : Bool) (s : Int) (hb : b < 18446744073709551616) (hN : neg64 (b : Int) = N) (hs : (b : Int) / 9223372036854775808 * 2147483648 = s) (he : exp64 (b : Int) = 2047) (hf : frac64 (b : Int) = (f : Int)) (hf0 : 0 < f) (hf1 : f < 4503599627370496) (W : World) :
    Calls Try.prog 4 #[.int .u64 (b : Int)] W fun x w' => x = .returned (.int .u32 (bits .or .u32 (bits .or .u32 s 2143289344) ((f : Int) / 536870912))) ∧ Below W.heap.size W w' := by
  have C := Lib.hid (fun W => apart_64 (b : Int) (by omega) (by omega) W)
  rw [he, hN] at C
  rw [hf] at C
  have q1 : (0 : Int) < (f : Int) := by omega
  clear hN he hf
  go_enter Try.func4, Try.ntmps4
  go_wp2_with fail
  refine (C.out _).mono ?_; rintro x w1 ⟨rfl, h1⟩
  have H1 := Lib.hid h1
  clear h1
  go_wp2_with fail
  go_ret
  exact ⟨rfl, H1.out.alloc H1.out.size _⟩
set_option maxRecDepth 100000 in
set_option maxHeartbeats 2000000 in
theorem narrow_small (b e : Nat) (N : Bool) (s : Int) (hb : b < 18446744073709551616) (hN : neg64 (b : Int) = N) (hs : (b : Int) / 9223372036854775808 * 2147483648 = s) (he : exp64 (b : Int) = (e : Int)) (he1 : e < 800) (W : World) :
    Calls Try.prog 4 #[.int .u64 (b : Int)] W fun x w' => x = .returned (.int .u32 (s)) ∧ Below W.heap.size W w' := by
  have C := Lib.hid (fun W => apart_64 (b : Int) (by omega) (by omega) W)
  rw [he, hN] at C
  generalize frac64 (b : Int) = f at *
  have i1 : (e : Int) < 800 := by omega
  have i2 : ((e : Int) == 2047) = false := by rw [beq_eq_false_iff_ne]; omega
  clear hN he
  go_enter Try.func4, Try.ntmps4
  go_wp2_with fail
  refine (C.out _).mono ?_; rintro x w1 ⟨rfl, h1⟩
  have H1 := Lib.hid h1
  clear h1
  go_wp2_with fail
  go_ret
  exact ⟨rfl, H1.out.alloc H1.out.size _⟩
set_option maxRecDepth 100000 in
set_option maxHeartbeats 2000000 in
theorem narrow_tiny (b e : Nat) (N : Bool) (s : Int) (hb : b < 18446744073709551616) (hN : neg64 (b : Int) = N) (hs : (b : Int) / 9223372036854775808 * 2147483648 = s) (he : exp64 (b : Int) = (e : Int)) (he1 : 800 ≤ e) (he2 : e < 866) (W : World) :
    Calls Try.prog 4 #[.int .u64 (b : Int)] W fun x w' => x = .returned (.int .u32 (s)) ∧ Below W.heap.size W w' := by
  have C := Lib.hid (fun W => apart_64 (b : Int) (by omega) (by omega) W)
  rw [he, hN] at C
  generalize frac64 (b : Int) = f at *
  have i1 : ¬ (e : Int) < 800 := by omega
  have i2 : ((e : Int) == 2047) = false := by rw [beq_eq_false_iff_ne]; omega
  obtain ⟨j, hj⟩ : ∃ j : Nat, 896 - e = j := ⟨_, rfl⟩
  have i3 : (e : Int) - 1023 + 127 = -(j : Int) := by omega
  have i4 : (60 : Int) < 29 + (1 + (j : Int)) := by omega
  clear hN he hj
  go_enter Try.func4, Try.ntmps4
  go_wp2_with fail
  refine (C.out _).mono ?_; rintro x w1 ⟨rfl, h1⟩
  have H1 := Lib.hid h1
  clear h1
  go_wp2_with fail
  go_quiet (fail)
  go_wp2_with fail
  go_ret
  exact ⟨rfl, by first | exact H1.out.alloc H1.out.size _ | exact below_drewN (H1.out.alloc H1.out.size _) _⟩
end Go.Proofs.Ytdlphcfmbhhfgaa.Rn
