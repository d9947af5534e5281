/-
  PROVED HERE: the contract of motion's Go at each key that looks for nothing. Conditions: as each theorem states.
-/
import Derived.Test.YtgkmjkjcdjkffaaDoorMoD
import Derived.Test.YtgkmjkjcdjkffaaDoorMoM
import Derived.Deep.QuietTactic
namespace Go.Proofs.YtgkmjkjcdjkffaaDoor.Mo
open Go.RowKit
theorem tup3 {a b : Int} (h : a = b) (t x : Value) : Ending.returned (.tuple #[.int .i64 a, t, x]) = .returned (.tuple #[.int .i64 b, t, x]) := by rw [h]
set_option maxRecDepth 100000 in
set_option maxHeartbeats 4000000 in
theorem go_h (s : ByteArray) (hs : s.size ≤ 1000) (A : Nat) (hA : A ≤ s.size) (n : Nat) (hn : n ≤ 9999) (arg : ByteArray) (a1 : Option Addr) (n1 c1 : Nat) (mo : Option Nat) (a2 : Option Addr) (n2 c2 : Nat) (W : World) :
    Calls Tryd.prog 7 #[.agg #[.string s, .int .i64 (A : Int), .slice a1 n1 c1, .map mo, .slice a2 n2 c2], .int .u8 104, .int .i64 n, .string arg] W (GP (bnd s.size (A - (max n 1 : Nat))) false 0 W) := by
  have HB := Lib.hid (fun (m : Int) (hm : -9223372036854775808 ≤ m ∧ m ≤ 9223372036854775807) W => bound_any s hs A m hm a1 n1 c1 mo a2 n2 c2 W)
  have HL := Lib.hid (fun W => last_any s hs A a1 n1 c1 mo a2 n2 c2 W)
  have B0 := Lib.hid ((Below.refl W.heap.size W).alloc (Nat.le_refl _) (.cells #[.string s, .int .i64 A, .slice a1 n1 c1, .map mo, .slice a2 n2 c2] 33))
  have t16 : ((A : Nat) : Int).tmod 16 = (A : Int) % 16 := Int.tmod_eq_emod_of_nonneg (by omega)
  have t4 : ((A : Nat) : Int).tmod 4 = (A : Int) % 4 := Int.tmod_eq_emod_of_nonneg (by omega)
  have d4 : ((A : Int) + 3).tdiv 4 = ((A : Int) + 3) / 4 := Int.tdiv_eq_ediv_of_nonneg (by omega)
  go_enter Tryd.func7, Tryd.ntmps7
  go_wp2_with fail
  refine (HB.out _ (by omega) _).mono ?_; rintro e w0 ⟨rfl, h0⟩
  have H0 := Lib.hid (B0.out.trans (h0.mono B0.out.size))
  clear h0
  go_wp2_with fail
  go_ret3
  exact ⟨_, tup3 (congrArg (bnd s.size) (by omega)) _ _, .inl ⟨rfl, rfl, rfl⟩, H0.out⟩
set_option maxRecDepth 100000 in
set_option maxHeartbeats 4000000 in
theorem go_l (s : ByteArray) (hs : s.size ≤ 1000) (A : Nat) (hA : A ≤ s.size) (n : Nat) (hn : n ≤ 9999) (arg : ByteArray) (a1 : Option Addr) (n1 c1 : Nat) (mo : Option Nat) (a2 : Option Addr) (n2 c2 : Nat) (W : World) :
    Calls Tryd.prog 7 #[.agg #[.string s, .int .i64 (A : Int), .slice a1 n1 c1, .map mo, .slice a2 n2 c2], .int .u8 108, .int .i64 n, .string arg] W (GP (bnd s.size (A + (max n 1 : Nat))) false 0 W) := by
  have HB := Lib.hid (fun (m : Int) (hm : -9223372036854775808 ≤ m ∧ m ≤ 9223372036854775807) W => bound_any s hs A m hm a1 n1 c1 mo a2 n2 c2 W)
  have HL := Lib.hid (fun W => last_any s hs A a1 n1 c1 mo a2 n2 c2 W)
  have B0 := Lib.hid ((Below.refl W.heap.size W).alloc (Nat.le_refl _) (.cells #[.string s, .int .i64 A, .slice a1 n1 c1, .map mo, .slice a2 n2 c2] 33))
  have t16 : ((A : Nat) : Int).tmod 16 = (A : Int) % 16 := Int.tmod_eq_emod_of_nonneg (by omega)
  have t4 : ((A : Nat) : Int).tmod 4 = (A : Int) % 4 := Int.tmod_eq_emod_of_nonneg (by omega)
  have d4 : ((A : Int) + 3).tdiv 4 = ((A : Int) + 3) / 4 := Int.tdiv_eq_ediv_of_nonneg (by omega)
  go_enter Tryd.func7, Tryd.ntmps7
  go_wp2_with fail
  refine (HB.out _ (by omega) _).mono ?_; rintro e w0 ⟨rfl, h0⟩
  have H0 := Lib.hid (B0.out.trans (h0.mono B0.out.size))
  clear h0
  go_wp2_with fail
  go_ret3
  exact ⟨_, tup3 (congrArg (bnd s.size) (by omega)) _ _, .inl ⟨rfl, rfl, rfl⟩, H0.out⟩
set_option maxRecDepth 100000 in
set_option maxHeartbeats 4000000 in
theorem go_d (s : ByteArray) (hs : s.size ≤ 1000) (A : Nat) (hA : A ≤ s.size) (n : Nat) (hn : n ≤ 9999) (arg : ByteArray) (a1 : Option Addr) (n1 c1 : Nat) (mo : Option Nat) (a2 : Option Addr) (n2 c2 : Nat) (W : World) :
    Calls Tryd.prog 7 #[.agg #[.string s, .int .i64 (A : Int), .slice a1 n1 c1, .map mo, .slice a2 n2 c2], .int .u8 36, .int .i64 n, .string arg] W (GP (bnd s.size (A - A % 16 + 15)) true 0 W) := by
  have HB := Lib.hid (fun (m : Int) (hm : -9223372036854775808 ≤ m ∧ m ≤ 9223372036854775807) W => bound_any s hs A m hm a1 n1 c1 mo a2 n2 c2 W)
  have HL := Lib.hid (fun W => last_any s hs A a1 n1 c1 mo a2 n2 c2 W)
  have B0 := Lib.hid ((Below.refl W.heap.size W).alloc (Nat.le_refl _) (.cells #[.string s, .int .i64 A, .slice a1 n1 c1, .map mo, .slice a2 n2 c2] 33))
  have t16 : ((A : Nat) : Int).tmod 16 = (A : Int) % 16 := Int.tmod_eq_emod_of_nonneg (by omega)
  have t4 : ((A : Nat) : Int).tmod 4 = (A : Int) % 4 := Int.tmod_eq_emod_of_nonneg (by omega)
  have d4 : ((A : Int) + 3).tdiv 4 = ((A : Int) + 3) / 4 := Int.tdiv_eq_ediv_of_nonneg (by omega)
  go_enter Tryd.func7, Tryd.ntmps7
  go_wp2_with fail
  refine (HB.out _ (by omega) _).mono ?_; rintro e w0 ⟨rfl, h0⟩
  have H0 := Lib.hid (B0.out.trans (h0.mono B0.out.size))
  clear h0
  go_wp2_with fail
  go_ret3
  exact ⟨_, tup3 (congrArg (bnd s.size) (by omega)) _ _, .inl ⟨rfl, rfl, rfl⟩, H0.out⟩
set_option maxRecDepth 100000 in
set_option maxHeartbeats 4000000 in
theorem go_g (s : ByteArray) (hs : s.size ≤ 1000) (A : Nat) (hA : A ≤ s.size) (n : Nat) (hn : n ≤ 9999) (arg : ByteArray) (a1 : Option Addr) (n1 c1 : Nat) (mo : Option Nat) (a2 : Option Addr) (n2 c2 : Nat) (W : World) :
    Calls Tryd.prog 7 #[.agg #[.string s, .int .i64 (A : Int), .slice a1 n1 c1, .map mo, .slice a2 n2 c2], .int .u8 103, .int .i64 n, .string arg] W (GP (bnd s.size n) false 0 W) := by
  have HB := Lib.hid (fun (m : Int) (hm : -9223372036854775808 ≤ m ∧ m ≤ 9223372036854775807) W => bound_any s hs A m hm a1 n1 c1 mo a2 n2 c2 W)
  have HL := Lib.hid (fun W => last_any s hs A a1 n1 c1 mo a2 n2 c2 W)
  have B0 := Lib.hid ((Below.refl W.heap.size W).alloc (Nat.le_refl _) (.cells #[.string s, .int .i64 A, .slice a1 n1 c1, .map mo, .slice a2 n2 c2] 33))
  have t16 : ((A : Nat) : Int).tmod 16 = (A : Int) % 16 := Int.tmod_eq_emod_of_nonneg (by omega)
  have t4 : ((A : Nat) : Int).tmod 4 = (A : Int) % 4 := Int.tmod_eq_emod_of_nonneg (by omega)
  have d4 : ((A : Int) + 3).tdiv 4 = ((A : Int) + 3) / 4 := Int.tdiv_eq_ediv_of_nonneg (by omega)
  go_enter Tryd.func7, Tryd.ntmps7
  go_wp2_with fail
  refine (HB.out _ (by omega) _).mono ?_; rintro e w0 ⟨rfl, h0⟩
  have H0 := Lib.hid (B0.out.trans (h0.mono B0.out.size))
  clear h0
  go_wp2_with fail
  go_ret3
  exact ⟨_, tup3 (congrArg (bnd s.size) (by omega)) _ _, .inl ⟨rfl, rfl, rfl⟩, H0.out⟩
set_option maxRecDepth 100000 in
set_option maxHeartbeats 4000000 in
theorem go_w (s : ByteArray) (hs : s.size ≤ 1000) (A : Nat) (hA : A ≤ s.size) (n : Nat) (hn : n ≤ 9999) (arg : ByteArray) (a1 : Option Addr) (n1 c1 : Nat) (mo : Option Nat) (a2 : Option Addr) (n2 c2 : Nat) (W : World) :
    Calls Tryd.prog 7 #[.agg #[.string s, .int .i64 (A : Int), .slice a1 n1 c1, .map mo, .slice a2 n2 c2], .int .u8 119, .int .i64 n, .string arg] W (GP (bnd s.size (A - A % 4 + 4 * (max n 1 : Nat))) false 0 W) := by
  have HB := Lib.hid (fun (m : Int) (hm : -9223372036854775808 ≤ m ∧ m ≤ 9223372036854775807) W => bound_any s hs A m hm a1 n1 c1 mo a2 n2 c2 W)
  have HL := Lib.hid (fun W => last_any s hs A a1 n1 c1 mo a2 n2 c2 W)
  have B0 := Lib.hid ((Below.refl W.heap.size W).alloc (Nat.le_refl _) (.cells #[.string s, .int .i64 A, .slice a1 n1 c1, .map mo, .slice a2 n2 c2] 33))
  have t16 : ((A : Nat) : Int).tmod 16 = (A : Int) % 16 := Int.tmod_eq_emod_of_nonneg (by omega)
  have t4 : ((A : Nat) : Int).tmod 4 = (A : Int) % 4 := Int.tmod_eq_emod_of_nonneg (by omega)
  have d4 : ((A : Int) + 3).tdiv 4 = ((A : Int) + 3) / 4 := Int.tdiv_eq_ediv_of_nonneg (by omega)
  go_enter Tryd.func7, Tryd.ntmps7
  go_wp2_with fail
  refine (HB.out _ (by omega) _).mono ?_; rintro e w0 ⟨rfl, h0⟩
  have H0 := Lib.hid (B0.out.trans (h0.mono B0.out.size))
  clear h0
  go_wp2_with fail
  go_ret3
  exact ⟨_, tup3 (congrArg (bnd s.size) (by omega)) _ _, .inl ⟨rfl, rfl, rfl⟩, H0.out⟩
set_option maxRecDepth 100000 in
set_option maxHeartbeats 4000000 in
theorem go_b (s : ByteArray) (hs : s.size ≤ 1000) (A : Nat) (hA : A ≤ s.size) (n : Nat) (hn : n ≤ 9999) (arg : ByteArray) (a1 : Option Addr) (n1 c1 : Nat) (mo : Option Nat) (a2 : Option Addr) (n2 c2 : Nat) (W : World) :
    Calls Tryd.prog 7 #[.agg #[.string s, .int .i64 (A : Int), .slice a1 n1 c1, .map mo, .slice a2 n2 c2], .int .u8 98, .int .i64 n, .string arg] W (GP (bnd s.size ((A + 3) / 4 * 4 - 4 * (max n 1 : Nat))) false 0 W) := by
  have HB := Lib.hid (fun (m : Int) (hm : -9223372036854775808 ≤ m ∧ m ≤ 9223372036854775807) W => bound_any s hs A m hm a1 n1 c1 mo a2 n2 c2 W)
  have HL := Lib.hid (fun W => last_any s hs A a1 n1 c1 mo a2 n2 c2 W)
  have B0 := Lib.hid ((Below.refl W.heap.size W).alloc (Nat.le_refl _) (.cells #[.string s, .int .i64 A, .slice a1 n1 c1, .map mo, .slice a2 n2 c2] 33))
  have t16 : ((A : Nat) : Int).tmod 16 = (A : Int) % 16 := Int.tmod_eq_emod_of_nonneg (by omega)
  have t4 : ((A : Nat) : Int).tmod 4 = (A : Int) % 4 := Int.tmod_eq_emod_of_nonneg (by omega)
  have d4 : ((A : Int) + 3).tdiv 4 = ((A : Int) + 3) / 4 := Int.tdiv_eq_ediv_of_nonneg (by omega)
  go_enter Tryd.func7, Tryd.ntmps7
  go_wp2_with fail
  refine (HB.out _ (by omega) _).mono ?_; rintro e w0 ⟨rfl, h0⟩
  have H0 := Lib.hid (B0.out.trans (h0.mono B0.out.size))
  clear h0
  go_wp2_with fail
  go_ret3
  exact ⟨_, tup3 (congrArg (bnd s.size) (by omega)) _ _, .inl ⟨rfl, rfl, rfl⟩, H0.out⟩
set_option maxRecDepth 100000 in
set_option maxHeartbeats 4000000 in
theorem go_z (s : ByteArray) (hs : s.size ≤ 1000) (A : Nat) (hA : A ≤ s.size) (n : Nat) (hn : n ≤ 9999) (arg : ByteArray) (a1 : Option Addr) (n1 c1 : Nat) (mo : Option Nat) (a2 : Option Addr) (n2 c2 : Nat) (W : World) :
    Calls Tryd.prog 7 #[.agg #[.string s, .int .i64 (A : Int), .slice a1 n1 c1, .map mo, .slice a2 n2 c2], .int .u8 48, .int .i64 n, .string arg] W (GP ((A : Int) - (A : Int) % 16) false 0 W) := by
  have HB := Lib.hid (fun (m : Int) (hm : -9223372036854775808 ≤ m ∧ m ≤ 9223372036854775807) W => bound_any s hs A m hm a1 n1 c1 mo a2 n2 c2 W)
  have HL := Lib.hid (fun W => last_any s hs A a1 n1 c1 mo a2 n2 c2 W)
  have B0 := Lib.hid ((Below.refl W.heap.size W).alloc (Nat.le_refl _) (.cells #[.string s, .int .i64 A, .slice a1 n1 c1, .map mo, .slice a2 n2 c2] 33))
  have t16 : ((A : Nat) : Int).tmod 16 = (A : Int) % 16 := Int.tmod_eq_emod_of_nonneg (by omega)
  have t4 : ((A : Nat) : Int).tmod 4 = (A : Int) % 4 := Int.tmod_eq_emod_of_nonneg (by omega)
  have d4 : ((A : Int) + 3).tdiv 4 = ((A : Int) + 3) / 4 := Int.tdiv_eq_ediv_of_nonneg (by omega)
  go_enter Tryd.func7, Tryd.ntmps7
  go_wp2_with fail
  go_ret3
  exact ⟨_, tup3 (by omega) _ _, .inl ⟨rfl, rfl, rfl⟩, B0.out⟩
set_option maxRecDepth 100000 in
set_option maxHeartbeats 4000000 in
theorem go_G (s : ByteArray) (hs : s.size ≤ 1000) (A : Nat) (hA : A ≤ s.size) (n : Nat) (hn : n ≤ 9999) (arg : ByteArray) (a1 : Option Addr) (n1 c1 : Nat) (mo : Option Nat) (a2 : Option Addr) (n2 c2 : Nat) (W : World) :
    Calls Tryd.prog 7 #[.agg #[.string s, .int .i64 (A : Int), .slice a1 n1 c1, .map mo, .slice a2 n2 c2], .int .u8 71, .int .i64 n, .string arg] W (GP (if 0 < n then bnd s.size n else max ((s.size : Int) - 1) 0) true 0 W) := by
  have HB := Lib.hid (fun (m : Int) (hm : -9223372036854775808 ≤ m ∧ m ≤ 9223372036854775807) W => bound_any s hs A m hm a1 n1 c1 mo a2 n2 c2 W)
  have HL := Lib.hid (fun W => last_any s hs A a1 n1 c1 mo a2 n2 c2 W)
  have B0 := Lib.hid ((Below.refl W.heap.size W).alloc (Nat.le_refl _) (.cells #[.string s, .int .i64 A, .slice a1 n1 c1, .map mo, .slice a2 n2 c2] 33))
  have t16 : ((A : Nat) : Int).tmod 16 = (A : Int) % 16 := Int.tmod_eq_emod_of_nonneg (by omega)
  have t4 : ((A : Nat) : Int).tmod 4 = (A : Int) % 4 := Int.tmod_eq_emod_of_nonneg (by omega)
  have d4 : ((A : Int) + 3).tdiv 4 = ((A : Int) + 3) / 4 := Int.tdiv_eq_ediv_of_nonneg (by omega)
  by_cases c : 0 < n
  · rw [if_pos c]
    have c' : (0 : Int) < (n : Int) := by omega
    clear c
    go_enter Tryd.func7, Tryd.ntmps7
    go_wp2_with fail
    refine (HB.out _ (by omega) _).mono ?_; rintro e w0 ⟨rfl, h0⟩
    have H0 := Lib.hid (B0.out.trans (h0.mono B0.out.size))
    clear h0
    go_wp2_with fail
    go_ret3
    exact ⟨_, tup3 (congrArg (bnd s.size) (by omega)) _ _, .inl ⟨rfl, rfl, rfl⟩, H0.out⟩
  · rw [if_neg c]
    obtain rfl : n = 0 := by omega
    clear c
    go_enter Tryd.func7, Tryd.ntmps7
    go_wp2_with fail
    refine (HL.out _).mono ?_; rintro e w0 ⟨rfl, h0⟩
    have H0 := Lib.hid (B0.out.trans (h0.mono B0.out.size))
    clear h0
    go_wp2_with fail
    go_ret3
    exact ⟨_, tup3 rfl _ _, .inl ⟨rfl, rfl, rfl⟩, H0.out⟩
set_option maxRecDepth 100000 in
set_option maxHeartbeats 4000000 in
theorem go_j (s : ByteArray) (hs : s.size ≤ 1000) (A : Nat) (hA : A ≤ s.size) (n : Nat) (hn : n ≤ 9999) (arg : ByteArray) (a1 : Option Addr) (n1 c1 : Nat) (mo : Option Nat) (a2 : Option Addr) (n2 c2 : Nat) (W : World) :
    Calls Tryd.prog 7 #[.agg #[.string s, .int .i64 (A : Int), .slice a1 n1 c1, .map mo, .slice a2 n2 c2], .int .u8 106, .int .i64 n, .string arg] W (GP (if (A : Int) + 16 * (max n 1 : Nat) ≤ max ((s.size : Int) - 1) 0 then (A : Int) + 16 * (max n 1 : Nat) else 0) false (if (A : Int) + 16 * (max n 1 : Nat) ≤ max ((s.size : Int) - 1) 0 then 0 else 8) W) := by
  have HB := Lib.hid (fun (m : Int) (hm : -9223372036854775808 ≤ m ∧ m ≤ 9223372036854775807) W => bound_any s hs A m hm a1 n1 c1 mo a2 n2 c2 W)
  have HL := Lib.hid (fun W => last_any s hs A a1 n1 c1 mo a2 n2 c2 W)
  have B0 := Lib.hid ((Below.refl W.heap.size W).alloc (Nat.le_refl _) (.cells #[.string s, .int .i64 A, .slice a1 n1 c1, .map mo, .slice a2 n2 c2] 33))
  have t16 : ((A : Nat) : Int).tmod 16 = (A : Int) % 16 := Int.tmod_eq_emod_of_nonneg (by omega)
  have t4 : ((A : Nat) : Int).tmod 4 = (A : Int) % 4 := Int.tmod_eq_emod_of_nonneg (by omega)
  have d4 : ((A : Int) + 3).tdiv 4 = ((A : Int) + 3) / 4 := Int.tdiv_eq_ediv_of_nonneg (by omega)
  obtain ⟨K0, hK0⟩ : ∃ K0 : Int, max (n : Int) 1 = K0 := ⟨_, rfl⟩
  have hK1 : ((max n 1 : Nat) : Int) = K0 := by omega
  have hK2 : 1 ≤ K0 ∧ K0 ≤ 9999 := by omega
  obtain ⟨hK3, hK4⟩ := hK2
  obtain ⟨L0, hL0⟩ : ∃ L0 : Int, max ((s.size : Int) - 1) 0 = L0 := ⟨_, rfl⟩
  have hL1 : 0 ≤ L0 := by omega
  rw [hL0] at HL
  rw [hK1, hL0]
  clear hK1
  by_cases c : (A : Int) + 16 * K0 ≤ L0
  · rw [if_pos c, if_pos c]
    have c0 : (0 : Int) ≤ (A : Int) + 16 * K0 := by omega
    go_enter Tryd.func7, Tryd.ntmps7
    go_wp2_with fail
    refine (HL.out _).mono ?_; rintro e w0 ⟨rfl, h0⟩
    have H0 := Lib.hid (B0.out.trans (h0.mono B0.out.size))
    clear h0
    go_wp2_with fail
    go_ret3
    exact ⟨_, tup3 (by omega) _ _, .inl ⟨rfl, rfl, rfl⟩, H0.out⟩
  · rw [if_neg c, if_neg c]
    have c0 : (0 : Int) ≤ (A : Int) + 16 * K0 := by omega
    have c1 : L0 < (A : Int) + 16 * K0 := by omega
    clear c
    go_enter Tryd.func7, Tryd.ntmps7
    go_wp2_with fail
    refine (HL.out _).mono ?_; rintro e w0 ⟨rfl, h0⟩
    have H0 := Lib.hid (B0.out.trans (h0.mono B0.out.size))
    clear h0
    go_wp2_with fail
    go_ret3
    exact ⟨_, tup3 rfl _ _, .inr (.inl ⟨rfl, rfl⟩), H0.out⟩
set_option maxRecDepth 100000 in
set_option maxHeartbeats 4000000 in
theorem go_k (s : ByteArray) (hs : s.size ≤ 1000) (A : Nat) (hA : A ≤ s.size) (n : Nat) (hn : n ≤ 9999) (arg : ByteArray) (a1 : Option Addr) (n1 c1 : Nat) (mo : Option Nat) (a2 : Option Addr) (n2 c2 : Nat) (W : World) (hAL : A = 0 ∨ A < s.size) :
    Calls Tryd.prog 7 #[.agg #[.string s, .int .i64 (A : Int), .slice a1 n1 c1, .map mo, .slice a2 n2 c2], .int .u8 107, .int .i64 n, .string arg] W (GP (if 16 * ((max n 1 : Nat) : Int) ≤ (A : Int) then (A : Int) - 16 * (max n 1 : Nat) else 0) false (if 16 * ((max n 1 : Nat) : Int) ≤ (A : Int) then 0 else 8) W) := by
  have HB := Lib.hid (fun (m : Int) (hm : -9223372036854775808 ≤ m ∧ m ≤ 9223372036854775807) W => bound_any s hs A m hm a1 n1 c1 mo a2 n2 c2 W)
  have HL := Lib.hid (fun W => last_any s hs A a1 n1 c1 mo a2 n2 c2 W)
  have B0 := Lib.hid ((Below.refl W.heap.size W).alloc (Nat.le_refl _) (.cells #[.string s, .int .i64 A, .slice a1 n1 c1, .map mo, .slice a2 n2 c2] 33))
  have t16 : ((A : Nat) : Int).tmod 16 = (A : Int) % 16 := Int.tmod_eq_emod_of_nonneg (by omega)
  have t4 : ((A : Nat) : Int).tmod 4 = (A : Int) % 4 := Int.tmod_eq_emod_of_nonneg (by omega)
  have d4 : ((A : Int) + 3).tdiv 4 = ((A : Int) + 3) / 4 := Int.tdiv_eq_ediv_of_nonneg (by omega)
  obtain ⟨K0, hK0⟩ : ∃ K0 : Int, max (n : Int) 1 = K0 := ⟨_, rfl⟩
  have hK1 : ((max n 1 : Nat) : Int) = K0 := by omega
  have hK2 : 1 ≤ K0 ∧ K0 ≤ 9999 := by omega
  obtain ⟨hK3, hK4⟩ := hK2
  obtain ⟨L0, hL0⟩ : ∃ L0 : Int, max ((s.size : Int) - 1) 0 = L0 := ⟨_, rfl⟩
  have hL1 : 0 ≤ L0 := by omega
  rw [hL0] at HL
  rw [hK1]
  clear hK1
  by_cases c : 16 * K0 ≤ (A : Int)
  · rw [if_pos c, if_pos c]
    have c0 : (0 : Int) ≤ (A : Int) - 16 * K0 := by omega
    have c1 : (A : Int) - 16 * K0 ≤ L0 := by omega
    go_enter Tryd.func7, Tryd.ntmps7
    go_wp2_with fail
    refine (HL.out _).mono ?_; rintro e w0 ⟨rfl, h0⟩
    have H0 := Lib.hid (B0.out.trans (h0.mono B0.out.size))
    clear h0
    go_wp2_with fail
    go_ret3
    exact ⟨_, tup3 (by omega) _ _, .inl ⟨rfl, rfl, rfl⟩, H0.out⟩
  · rw [if_neg c, if_neg c]
    have c0 : (A : Int) - 16 * K0 < 0 := by omega
    clear c
    go_enter Tryd.func7, Tryd.ntmps7
    go_wp2_with fail
    go_ret3
    exact ⟨_, tup3 rfl _ _, .inr (.inl ⟨rfl, rfl⟩), B0.out⟩
set_option maxRecDepth 100000 in
set_option maxHeartbeats 4000000 in
theorem go_q (s : ByteArray) (hs : s.size ≤ 1000) (A : Nat) (hA : A ≤ s.size) (n : Nat) (hn : n ≤ 9999) (arg : ByteArray) (a1 : Option Addr) (n1 c1 : Nat) (mo : Option Nat) (a2 : Option Addr) (n2 c2 : Nat) (W : World) (f : Nat → Int × Bool) (hM : Marks W mo f) (h1 : arg.size = 1) :
    Calls Tryd.prog 7 #[.agg #[.string s, .int .i64 (A : Int), .slice a1 n1 c1, .map mo, .slice a2 n2 c2], .int .u8 39, .int .i64 n, .string arg] W (GP (if (f (byteAt arg 0)).2 = true then bnd s.size (f (byteAt arg 0)).1 else 0) false (if (f (byteAt arg 0)).2 = true then 0 else 7) W) := by
  have HB := Lib.hid (fun (m : Int) (hm : -9223372036854775808 ≤ m ∧ m ≤ 9223372036854775807) W => bound_any s hs A m hm a1 n1 c1 mo a2 n2 c2 W)
  have HL := Lib.hid (fun W => last_any s hs A a1 n1 c1 mo a2 n2 c2 W)
  have B0 := Lib.hid ((Below.refl W.heap.size W).alloc (Nat.le_refl _) (.cells #[.string s, .int .i64 A, .slice a1 n1 c1, .map mo, .slice a2 n2 c2] 33))
  have t16 : ((A : Nat) : Int).tmod 16 = (A : Int) % 16 := Int.tmod_eq_emod_of_nonneg (by omega)
  have t4 : ((A : Nat) : Int).tmod 4 = (A : Int) % 4 := Int.tmod_eq_emod_of_nonneg (by omega)
  have d4 : ((A : Int) + 3).tdiv 4 = ((A : Int) + 3) / 4 := Int.tdiv_eq_ediv_of_nonneg (by omega)
  have LK : ∀ m, (Instr.lookup 23 (.map mo) (.int .u8 ((byteAt arg 0 : Nat) : Int)) true).run Tryd.prog ((W.alloc (.cells #[.string s, .int .i64 A, .slice a1 n1 c1, .map mo, .slice a2 n2 c2] 33)).drewN m) = .ok (.tuple #[.int .i64 (f (byteAt arg 0)).1, .bool (f (byteAt arg 0)).2]) ((W.alloc (.cells #[.string s, .int .i64 A, .slice a1 n1 c1, .map mo, .slice a2 n2 c2] 33)).drewN m) := fun m => (hM _ (below_drewN B0.out m) _ (byteAt_lt arg 0)).1
  have hfb := (hM _ (Below.refl _ _) _ (byteAt_lt arg 0)).2
  have i0 : (0 : Nat) < arg.size := by omega
  have e0 := byteAt_eq arg 0 i0
  have i1 : (0 : Int) < (arg.size : Int) := by omega
  obtain ⟨ch, hch⟩ : ∃ ch, byteAt arg 0 = ch := ⟨_, rfl⟩
  rw [hch] at LK hfb e0 ⊢
  clear hM hch
  generalize f ch = fv at *
  obtain ⟨t, b⟩ := fv
  simp only at LK hfb
  cases b with
  | true =>
    rw [if_pos rfl, if_pos rfl]
    go_enter Tryd.func7, Tryd.ntmps7
    go_wp2_with fail
    go_quiet (fail)
    go_wp2_with fail
    refine (HB.out _ (by omega) _).mono ?_; rintro e w0 ⟨rfl, h0⟩
    have H0 := Lib.hid ((below_drewN B0.out nq).trans (h0.mono B0.out.size))
    clear h0
    go_wp2_with fail
    go_ret3
    exact ⟨_, tup3 rfl _ _, .inl ⟨rfl, rfl, rfl⟩, H0.out⟩
  | false =>
    rw [if_neg (by simp), if_neg (by simp)]
    go_enter Tryd.func7, Tryd.ntmps7
    go_wp2_with fail
    go_quiet (fail)
    go_wp2_with fail
    go_ret3
    exact ⟨_, tup3 rfl _ _, .inr (.inl ⟨rfl, rfl⟩), below_drewN B0.out _⟩
set_option maxRecDepth 100000 in
set_option maxHeartbeats 4000000 in
theorem go_far (op : Int) (hop : op = 102 ∨ op = 93 ∨ op = 91 ∨ op = 110 ∨ op = 78) (N : Int) (b : Bool) (c : Int) (s : ByteArray) (hs : s.size ≤ 1000) (A : Nat) (hA : A ≤ s.size) (n : Nat) (hn : n ≤ 9999) (arg : ByteArray) (a1 : Option Addr) (n1 c1 : Nat) (mo : Option Nat) (a2 : Option Addr) (n2 c2 : Nat) (W : World)
    (C : ∀ W', Below W.heap.size W W' → Calls Tryd.prog 22 #[.agg #[.string s, .int .i64 (A : Int), .slice a1 n1 c1, .map mo, .slice a2 n2 c2], .int .u8 op, .int .i64 ((max n 1 : Nat) : Int), .string arg] W' (GP N b c W')) :
    Calls Tryd.prog 7 #[.agg #[.string s, .int .i64 (A : Int), .slice a1 n1 c1, .map mo, .slice a2 n2 c2], .int .u8 op, .int .i64 n, .string arg] W (GP N b c W) := by
  have B0 := Lib.hid ((Below.refl W.heap.size W).alloc (Nat.le_refl _) (.cells #[.string s, .int .i64 A, .slice a1 n1 c1, .map mo, .slice a2 n2 c2] 33))
  have C2 := Lib.hid (C _ B0.out)
  clear C
  obtain ⟨k, hk⟩ : ∃ k, max n 1 = k := ⟨_, rfl⟩
  have hmx : max (n : Int) 1 = (k : Int) := by omega
  rw [hk] at C2
  clear hk
  rcases hop with rfl | rfl | rfl | rfl | rfl
  all_goals
    go_enter Tryd.func7, Tryd.ntmps7
    go_wp2_with fail
    refine C2.out.mono ?_; rintro e w0 ⟨x, rfl, hx, h0⟩
    have HX := Lib.hid hx
    have H0 := Lib.hid (B0.out.trans (h0.mono B0.out.size))
    clear hx h0
    go_wp2_with fail
    go_ret3
    exact ⟨_, rfl, HX.out, H0.out⟩
end Go.Proofs.YtgkmjkjcdjkffaaDoor.Mo
