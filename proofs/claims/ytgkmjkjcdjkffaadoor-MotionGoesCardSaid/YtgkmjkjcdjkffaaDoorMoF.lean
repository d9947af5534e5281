/-
  PROVED HERE: the contracts of the document's bound, in, and of its Go at each key that looks for nothing. Conditions: as each theorem states.
-/
import Derived.Test.YtgkmjkjcdjkffaaDoorMoA
import Derived.Test.YtgkmjkjcdjkffaaDoorMoE
import Derived.Test.YtgkmjkjcdjkffaaDoorTac
import Derived.Test.YtgkmjkjcdjkffaaDoorRef
import Derived.Deep.QuietTactic
namespace Go.Proofs.YtgkmjkjcdjkffaaDoor.Mo
open Go.RowKit
/-- A place, whether the byte there is a part, an error's number. -/
def GD (n : Int) (b : Bool) (c : Int) (W : World) (e : Ending) (w' : World) : Prop := e = .returned (.tuple #[.int .i64 n, .bool b, .int .i64 c]) ∧ Below W.heap.size W w'
theorem tup3d {a b : Int} (h : a = b) (t x : Value) : Ending.returned (.tuple #[.int .i64 a, t, x]) = .returned (.tuple #[.int .i64 b, t, x]) := by rw [h]
def DbR (L n : Int) (w1 : World) (i : Value) (wr : World) : Prop := ∃ m : Int, i = .int .i64 m ∧ -9223372036854775808 ≤ m ∧ m ≤ 9223372036854775807 ∧ bnd L m = bnd L n ∧ wr = w1
set_option maxRecDepth 100000 in
set_option maxHeartbeats 2000000 in
theorem docBound_any (s : ByteArray) (hs : s.size ≤ 1000) (A n : Int) (hn : -9223372036854775808 ≤ n ∧ n ≤ 9223372036854775807) (a1 : Option Addr) (n1 c1 : Nat) (mo : Option Nat) (a2 : Option Addr) (n2 c2 : Nat) (W : World) :
    Calls Tryd.prog 15 #[.agg #[.string s, .int .i64 A, .slice a1 n1 c1, .map mo, .slice a2 n2 c2], .int .i64 n] W fun e w' => e = .returned (.int .i64 (bnd s.size n)) ∧ Below W.heap.size W w' := by
  obtain ⟨hn0, hn1⟩ := hn
  obtain ⟨R, hR⟩ : ∃ R, bnd s.size n = R := ⟨_, rfl⟩
  rw [hR]
  have HR := Lib.hid hR
  clear hR
  go_enter Tryd.func15, Tryd.ntmps15
  go_wp2_with fail
  obtain ⟨w1, hw1⟩ : ∃ w1, w1 = W.alloc (.cells #[.string s, .int .i64 A, .slice a1 n1 c1, .map mo, .slice a2 n2 c2] 30) := ⟨_, rfl⟩
  rw [← hw1]
  have b0 : w1.cell? ⟨W.heap.size, 0, none⟩ = some (.string s) := by rw [hw1]; simp
  have B1 : Hid (Below W.heap.size W w1) := Lib.hid (by rw [hw1]; exact (Below.refl _ _).alloc (Nat.le_refl _) _)
  clear hw1
  go_loopw [1] (fun i wr => DbR s.size n w1 i wr) (fun i _ => (intOf i).toNat)
  case atStart => exact ⟨n, rfl, hn0, hn1, rfl, rfl⟩
  case round =>
    obtain ⟨m, rfl, hm0, hm1, hb, rfl⟩ := hrel
    have HB := Lib.hid hb
    by_cases c : (s.size : Int) ≤ m
    · by_cases d : 0 < m
      · by_cases z : s.size = 0
        · have z1 : (s.size : Int) - 1 < 0 := by omega
          have q : bnd s.size 0 = bnd s.size n := by rw [← hb]; unfold bnd; omega
          clear hb
          go_wp2_with fail
          go_roundw
          case rel => first | exact ⟨0, rfl, by decide, by decide, q, rfl⟩ | ((repeat apply Exists.intro); exact ⟨⟨0, rfl, by decide, by decide, q, rfl⟩, rfl⟩)
          case measure => simp [intOf]; omega
        · have z1 : 0 ≤ (s.size : Int) - 1 := by omega
          have q : bnd s.size ((s.size : Int) - 1) = bnd s.size n := by rw [← hb]; unfold bnd; omega
          clear hb
          go_wp2_with fail
          go_roundw
          case rel => first | exact ⟨(s.size : Int) - 1, rfl, by omega, by omega, q, rfl⟩ | ((repeat apply Exists.intro); exact ⟨⟨(s.size : Int) - 1, rfl, by omega, by omega, q, rfl⟩, rfl⟩)
          case measure => simp [intOf]; omega
      · have d' : m ≤ 0 := by omega
        have q : max m 0 = R := by rw [← HR.out, ← hb]; unfold bnd; omega
        clear hb
        go_wp2_with fail
        all_goals
          go_ret
          exact ⟨ret_int (by omega), B1.out⟩
    · have c' : m < (s.size : Int) := by omega
      have q : max m 0 = R := by rw [← HR.out, ← hb]; unfold bnd; omega
      clear hb
      go_wp2_with fail
      all_goals
        go_ret
        exact ⟨ret_int (by omega), B1.out⟩
def InR (l : List Int) (n : Int) (W : World) (i : Value) (wr : World) : Prop := ∃ k : Nat, k ≤ l.length ∧ i = .int .i64 k ∧ Hid (∀ j (hj : j < l.length), j < k → l[j] ≠ n) ∧ wr = W
set_option maxRecDepth 100000 in
set_option maxHeartbeats 2000000 in
theorem docIn_any (v : Value) (l : List Int) (n : Int) (hl : l.length ≤ 100000) (W : World) (hi : Ints W v l) :
    Calls Tryd.prog 18 #[v, .int .i64 n] W fun e w' => e = .returned (.bool (decide (n ∈ l))) ∧ w' = W := by
  obtain ⟨ad, cap, rfl, hc⟩ := hi
  have HC := Lib.hid hc
  clear hc
  go_enter Tryd.func18, Tryd.ntmps18
  go_wp2_with fail
  go_loopw [9] (fun i wr => InR l n W i wr) (fun i _ => l.length - (intOf i).toNat)
  case atStart => exact ⟨0, Nat.zero_le _, rfl, Lib.hid (fun j hj h => absurd h (Nat.not_lt_zero _)), rfl⟩
  case round =>
    obtain ⟨k, hk, rfl, hn, rfl⟩ := hrel
    by_cases hlt : k < l.length
    · obtain ⟨ad0, rfl, hck⟩ := HC.out k hlt
      by_cases c : l[k] = n
      · have HM : Hid (decide (n ∈ l) = true) := Lib.hid (decide_eq_true (c ▸ List.getElem_mem hlt))
        have c1 : (l[k] == n) = true := by rw [beq_iff_eq]; exact c
        clear c
        generalize l[k] = x at *
        go_wp2_with fail
        go_ret
        exact ⟨by rw [HM.out]; rfl, rfl⟩
      · have HN : Hid (∀ j (hj : j < l.length), j < k + 1 → l[j] ≠ n) := Lib.hid (fun j hj hjk => by
          by_cases e : j = k
          · subst e; exact c
          · exact hn.out j hj (by omega))
        have c1 : (l[k] == n) = false := by rw [beq_eq_false_iff_ne]; exact c
        clear c
        generalize l[k] = x at *
        go_wp2_with fail
        go_roundw
        case rel => first | exact ⟨k + 1, by omega, by go_num, HN, rfl⟩ | ((repeat apply Exists.intro); exact ⟨⟨k + 1, by omega, by go_num, HN, rfl⟩, rfl⟩)
        case measure => simp [intOf]; omega
    · obtain rfl : k = l.length := by omega
      have HM : Hid (decide (n ∈ l) = false) := Lib.hid (decide_eq_false (fun h => by
        obtain ⟨j, hj, e⟩ := List.getElem_of_mem h
        exact hn.out j hj hj e))
      go_wp2_with fail
      go_ret
      exact ⟨by rw [HM.out]; rfl, rfl⟩
set_option maxRecDepth 100000 in
set_option maxHeartbeats 4000000 in
theorem dgo_h (s : ByteArray) (hs : s.size ≤ 1000) (A : Nat) (hA : A ≤ s.size) (n : Nat) (hn : n ≤ 9999) (arg : ByteArray) (a1 : Option Addr) (n1 c1 : Nat) (mo : Option Nat) (a2 : Option Addr) (n2 c2 : Nat) (W : World) :
    Calls Tryd.prog 6 #[.agg #[.string s, .int .i64 (A : Int), .slice a1 n1 c1, .map mo, .slice a2 n2 c2], .int .u8 104, .int .i64 n, .string arg] W (GD (bnd s.size (A - (max n 1 : Nat))) false 0 W) := by
  have HB := Lib.hid (fun (m : Int) (hm : -9223372036854775808 ≤ m ∧ m ≤ 9223372036854775807) W => docBound_any s hs A m hm a1 n1 c1 mo a2 n2 c2 W)
  have B0 := Lib.hid ((Below.refl W.heap.size W).alloc (Nat.le_refl _) (.cells #[.string s, .int .i64 A, .slice a1 n1 c1, .map mo, .slice a2 n2 c2] 30))
  have d16 : ((A : Nat) : Int).tdiv 16 = (A : Int) / 16 := Int.tdiv_eq_ediv_of_nonneg (by omega)
  go_enter Tryd.func6, Tryd.ntmps6
  go_wp2_with fail
  refine (HB.out _ (by omega) _).mono ?_; rintro e w0 ⟨rfl, h0⟩
  have H0 := Lib.hid (B0.out.trans (h0.mono B0.out.size))
  clear h0
  go_wp2_with fail
  go_ret3
  exact ⟨tup3d (congrArg (bnd s.size) (by omega)) _ _, H0.out⟩
set_option maxRecDepth 100000 in
set_option maxHeartbeats 4000000 in
theorem dgo_l (s : ByteArray) (hs : s.size ≤ 1000) (A : Nat) (hA : A ≤ s.size) (n : Nat) (hn : n ≤ 9999) (arg : ByteArray) (a1 : Option Addr) (n1 c1 : Nat) (mo : Option Nat) (a2 : Option Addr) (n2 c2 : Nat) (W : World) :
    Calls Tryd.prog 6 #[.agg #[.string s, .int .i64 (A : Int), .slice a1 n1 c1, .map mo, .slice a2 n2 c2], .int .u8 108, .int .i64 n, .string arg] W (GD (bnd s.size (A + (max n 1 : Nat))) false 0 W) := by
  have HB := Lib.hid (fun (m : Int) (hm : -9223372036854775808 ≤ m ∧ m ≤ 9223372036854775807) W => docBound_any s hs A m hm a1 n1 c1 mo a2 n2 c2 W)
  have B0 := Lib.hid ((Below.refl W.heap.size W).alloc (Nat.le_refl _) (.cells #[.string s, .int .i64 A, .slice a1 n1 c1, .map mo, .slice a2 n2 c2] 30))
  have d16 : ((A : Nat) : Int).tdiv 16 = (A : Int) / 16 := Int.tdiv_eq_ediv_of_nonneg (by omega)
  go_enter Tryd.func6, Tryd.ntmps6
  go_wp2_with fail
  refine (HB.out _ (by omega) _).mono ?_; rintro e w0 ⟨rfl, h0⟩
  have H0 := Lib.hid (B0.out.trans (h0.mono B0.out.size))
  clear h0
  go_wp2_with fail
  go_ret3
  exact ⟨tup3d (congrArg (bnd s.size) (by omega)) _ _, H0.out⟩
set_option maxRecDepth 100000 in
set_option maxHeartbeats 4000000 in
theorem dgo_d (s : ByteArray) (hs : s.size ≤ 1000) (A : Nat) (hA : A ≤ s.size) (n : Nat) (hn : n ≤ 9999) (arg : ByteArray) (a1 : Option Addr) (n1 c1 : Nat) (mo : Option Nat) (a2 : Option Addr) (n2 c2 : Nat) (W : World) :
    Calls Tryd.prog 6 #[.agg #[.string s, .int .i64 (A : Int), .slice a1 n1 c1, .map mo, .slice a2 n2 c2], .int .u8 36, .int .i64 n, .string arg] W (GD (bnd s.size (A - A % 16 + 15)) true 0 W) := by
  have HB := Lib.hid (fun (m : Int) (hm : -9223372036854775808 ≤ m ∧ m ≤ 9223372036854775807) W => docBound_any s hs A m hm a1 n1 c1 mo a2 n2 c2 W)
  have B0 := Lib.hid ((Below.refl W.heap.size W).alloc (Nat.le_refl _) (.cells #[.string s, .int .i64 A, .slice a1 n1 c1, .map mo, .slice a2 n2 c2] 30))
  have d16 : ((A : Nat) : Int).tdiv 16 = (A : Int) / 16 := Int.tdiv_eq_ediv_of_nonneg (by omega)
  go_enter Tryd.func6, Tryd.ntmps6
  go_wp2_with fail
  refine (HB.out _ (by omega) _).mono ?_; rintro e w0 ⟨rfl, h0⟩
  have H0 := Lib.hid (B0.out.trans (h0.mono B0.out.size))
  clear h0
  go_wp2_with fail
  go_ret3
  exact ⟨tup3d (congrArg (bnd s.size) (by omega)) _ _, H0.out⟩
set_option maxRecDepth 100000 in
set_option maxHeartbeats 4000000 in
theorem dgo_g (s : ByteArray) (hs : s.size ≤ 1000) (A : Nat) (hA : A ≤ s.size) (n : Nat) (hn : n ≤ 9999) (arg : ByteArray) (a1 : Option Addr) (n1 c1 : Nat) (mo : Option Nat) (a2 : Option Addr) (n2 c2 : Nat) (W : World) :
    Calls Tryd.prog 6 #[.agg #[.string s, .int .i64 (A : Int), .slice a1 n1 c1, .map mo, .slice a2 n2 c2], .int .u8 103, .int .i64 n, .string arg] W (GD (bnd s.size n) false 0 W) := by
  have HB := Lib.hid (fun (m : Int) (hm : -9223372036854775808 ≤ m ∧ m ≤ 9223372036854775807) W => docBound_any s hs A m hm a1 n1 c1 mo a2 n2 c2 W)
  have B0 := Lib.hid ((Below.refl W.heap.size W).alloc (Nat.le_refl _) (.cells #[.string s, .int .i64 A, .slice a1 n1 c1, .map mo, .slice a2 n2 c2] 30))
  have d16 : ((A : Nat) : Int).tdiv 16 = (A : Int) / 16 := Int.tdiv_eq_ediv_of_nonneg (by omega)
  go_enter Tryd.func6, Tryd.ntmps6
  go_wp2_with fail
  refine (HB.out _ (by omega) _).mono ?_; rintro e w0 ⟨rfl, h0⟩
  have H0 := Lib.hid (B0.out.trans (h0.mono B0.out.size))
  clear h0
  go_wp2_with fail
  go_ret3
  exact ⟨tup3d (congrArg (bnd s.size) (by omega)) _ _, H0.out⟩
set_option maxRecDepth 100000 in
set_option maxHeartbeats 4000000 in
theorem dgo_z (s : ByteArray) (hs : s.size ≤ 1000) (A : Nat) (hA : A ≤ s.size) (n : Nat) (hn : n ≤ 9999) (arg : ByteArray) (a1 : Option Addr) (n1 c1 : Nat) (mo : Option Nat) (a2 : Option Addr) (n2 c2 : Nat) (W : World) :
    Calls Tryd.prog 6 #[.agg #[.string s, .int .i64 (A : Int), .slice a1 n1 c1, .map mo, .slice a2 n2 c2], .int .u8 48, .int .i64 n, .string arg] W (GD ((A : Int) - (A : Int) % 16) false 0 W) := by
  have HB := Lib.hid (fun (m : Int) (hm : -9223372036854775808 ≤ m ∧ m ≤ 9223372036854775807) W => docBound_any s hs A m hm a1 n1 c1 mo a2 n2 c2 W)
  have B0 := Lib.hid ((Below.refl W.heap.size W).alloc (Nat.le_refl _) (.cells #[.string s, .int .i64 A, .slice a1 n1 c1, .map mo, .slice a2 n2 c2] 30))
  have d16 : ((A : Nat) : Int).tdiv 16 = (A : Int) / 16 := Int.tdiv_eq_ediv_of_nonneg (by omega)
  go_enter Tryd.func6, Tryd.ntmps6
  go_wp2_with fail
  go_ret3
  exact ⟨tup3d (by omega) _ _, B0.out⟩
set_option maxRecDepth 100000 in
set_option maxHeartbeats 4000000 in
theorem dgo_G (s : ByteArray) (hs : s.size ≤ 1000) (A : Nat) (hA : A ≤ s.size) (n : Nat) (hn : n ≤ 9999) (arg : ByteArray) (a1 : Option Addr) (n1 c1 : Nat) (mo : Option Nat) (a2 : Option Addr) (n2 c2 : Nat) (W : World) :
    Calls Tryd.prog 6 #[.agg #[.string s, .int .i64 (A : Int), .slice a1 n1 c1, .map mo, .slice a2 n2 c2], .int .u8 71, .int .i64 n, .string arg] W (GD (if 0 < n then bnd s.size n else max ((s.size : Int) - 1) 0) true 0 W) := by
  have HB := Lib.hid (fun (m : Int) (hm : -9223372036854775808 ≤ m ∧ m ≤ 9223372036854775807) W => docBound_any s hs A m hm a1 n1 c1 mo a2 n2 c2 W)
  have B0 := Lib.hid ((Below.refl W.heap.size W).alloc (Nat.le_refl _) (.cells #[.string s, .int .i64 A, .slice a1 n1 c1, .map mo, .slice a2 n2 c2] 30))
  have d16 : ((A : Nat) : Int).tdiv 16 = (A : Int) / 16 := Int.tdiv_eq_ediv_of_nonneg (by omega)
  by_cases c : 0 < n
  · rw [if_pos c]
    have c' : ((n : Int) == 0) = false := by rw [beq_eq_false_iff_ne]; omega
    clear c
    go_enter Tryd.func6, Tryd.ntmps6
    go_wp2_with fail
    refine (HB.out _ (by omega) _).mono ?_; rintro e w0 ⟨rfl, h0⟩
    have H0 := Lib.hid (B0.out.trans (h0.mono B0.out.size))
    clear h0
    go_wp2_with fail
    go_ret3
    exact ⟨tup3d (congrArg (bnd s.size) (by omega)) _ _, H0.out⟩
  · rw [if_neg c]
    obtain rfl : n = 0 := by omega
    clear c
    go_enter Tryd.func6, Tryd.ntmps6
    go_wp2_with fail
    refine (HB.out _ (by omega) _).mono ?_; rintro e w0 ⟨rfl, h0⟩
    have H0 := Lib.hid (B0.out.trans (h0.mono B0.out.size))
    clear h0
    go_wp2_with fail
    go_ret3
    exact ⟨tup3d (by unfold bnd; omega) _ _, H0.out⟩
set_option maxRecDepth 100000 in
set_option maxHeartbeats 4000000 in
theorem dgo_j (s : ByteArray) (hs : s.size ≤ 1000) (A : Nat) (hA : A ≤ s.size) (n : Nat) (hn : n ≤ 9999) (arg : ByteArray) (a1 : Option Addr) (n1 c1 : Nat) (mo : Option Nat) (a2 : Option Addr) (n2 c2 : Nat) (W : World) :
    Calls Tryd.prog 6 #[.agg #[.string s, .int .i64 (A : Int), .slice a1 n1 c1, .map mo, .slice a2 n2 c2], .int .u8 106, .int .i64 n, .string arg] W (GD (if (A : Int) + 16 * (max n 1 : Nat) ≤ max ((s.size : Int) - 1) 0 then (A : Int) + 16 * (max n 1 : Nat) else 0) false (if (A : Int) + 16 * (max n 1 : Nat) ≤ max ((s.size : Int) - 1) 0 then 0 else 8) W) := by
  have HB := Lib.hid (fun (m : Int) (hm : -9223372036854775808 ≤ m ∧ m ≤ 9223372036854775807) W => docBound_any s hs A m hm a1 n1 c1 mo a2 n2 c2 W)
  have B0 := Lib.hid ((Below.refl W.heap.size W).alloc (Nat.le_refl _) (.cells #[.string s, .int .i64 A, .slice a1 n1 c1, .map mo, .slice a2 n2 c2] 30))
  have d16 : ((A : Nat) : Int).tdiv 16 = (A : Int) / 16 := Int.tdiv_eq_ediv_of_nonneg (by omega)
  obtain ⟨K0, hK0⟩ : ∃ K0 : Int, max (n : Int) 1 = K0 := ⟨_, rfl⟩
  have hK1 : ((max n 1 : Nat) : Int) = K0 := by omega
  have hK2 : 1 ≤ K0 ∧ K0 ≤ 9999 := by omega
  obtain ⟨hK3, hK4⟩ := hK2
  obtain ⟨L0, hL0⟩ : ∃ L0 : Int, max ((s.size : Int) - 1) 0 = L0 := ⟨_, rfl⟩
  have hL1 : 0 ≤ L0 := by omega
  rw [hK1, hL0]
  clear hK1
  by_cases c : (A : Int) + 16 * K0 ≤ L0
  · rw [if_pos c, if_pos c]
    go_enter Tryd.func6, Tryd.ntmps6
    go_wp2_with fail
    refine (Ref.within_yes _ _ _ (by omega) (by omega) _).mono ?_; rintro e w0 ⟨rfl, rfl⟩
    go_wp2_with fail
    go_ret3
    exact ⟨tup3d (by omega) _ _, B0.out⟩
  · rw [if_neg c, if_neg c]
    go_enter Tryd.func6, Tryd.ntmps6
    go_wp2_with fail
    refine (Ref.within_no _ _ _ (.inr (by omega)) _).mono ?_; rintro e w0 ⟨rfl, rfl⟩
    go_wp2_with fail
    go_ret3
    exact ⟨tup3d (by omega) _ _, B0.out⟩
set_option maxRecDepth 100000 in
set_option maxHeartbeats 4000000 in
theorem dgo_k (s : ByteArray) (hs : s.size ≤ 1000) (A : Nat) (hA : A ≤ s.size) (n : Nat) (hn : n ≤ 9999) (arg : ByteArray) (a1 : Option Addr) (n1 c1 : Nat) (mo : Option Nat) (a2 : Option Addr) (n2 c2 : Nat) (W : World) (hAL : A = 0 ∨ A < s.size) :
    Calls Tryd.prog 6 #[.agg #[.string s, .int .i64 (A : Int), .slice a1 n1 c1, .map mo, .slice a2 n2 c2], .int .u8 107, .int .i64 n, .string arg] W (GD (if 16 * ((max n 1 : Nat) : Int) ≤ (A : Int) then (A : Int) - 16 * (max n 1 : Nat) else 0) false (if 16 * ((max n 1 : Nat) : Int) ≤ (A : Int) then 0 else 8) W) := by
  have HB := Lib.hid (fun (m : Int) (hm : -9223372036854775808 ≤ m ∧ m ≤ 9223372036854775807) W => docBound_any s hs A m hm a1 n1 c1 mo a2 n2 c2 W)
  have B0 := Lib.hid ((Below.refl W.heap.size W).alloc (Nat.le_refl _) (.cells #[.string s, .int .i64 A, .slice a1 n1 c1, .map mo, .slice a2 n2 c2] 30))
  have d16 : ((A : Nat) : Int).tdiv 16 = (A : Int) / 16 := Int.tdiv_eq_ediv_of_nonneg (by omega)
  obtain ⟨K0, hK0⟩ : ∃ K0 : Int, max (n : Int) 1 = K0 := ⟨_, rfl⟩
  have hK1 : ((max n 1 : Nat) : Int) = K0 := by omega
  have hK2 : 1 ≤ K0 ∧ K0 ≤ 9999 := by omega
  obtain ⟨hK3, hK4⟩ := hK2
  obtain ⟨L0, hL0⟩ : ∃ L0 : Int, max ((s.size : Int) - 1) 0 = L0 := ⟨_, rfl⟩
  have hL1 : 0 ≤ L0 := by omega
  rw [hK1]
  clear hK1
  by_cases c : 16 * K0 ≤ (A : Int)
  · rw [if_pos c, if_pos c]
    go_enter Tryd.func6, Tryd.ntmps6
    go_wp2_with fail
    refine (Ref.within_yes _ _ _ (by omega) (by omega) _).mono ?_; rintro e w0 ⟨rfl, rfl⟩
    go_wp2_with fail
    go_ret3
    exact ⟨tup3d (by omega) _ _, B0.out⟩
  · rw [if_neg c, if_neg c]
    go_enter Tryd.func6, Tryd.ntmps6
    go_wp2_with fail
    refine (Ref.within_no _ _ _ (.inl (by omega)) _).mono ?_; rintro e w0 ⟨rfl, rfl⟩
    go_wp2_with fail
    go_ret3
    exact ⟨tup3d (by omega) _ _, B0.out⟩
set_option maxRecDepth 100000 in
set_option maxHeartbeats 4000000 in
theorem dgo_q (s : ByteArray) (hs : s.size ≤ 1000) (A : Nat) (hA : A ≤ s.size) (n : Nat) (hn : n ≤ 9999) (arg : ByteArray) (a1 : Option Addr) (n1 c1 : Nat) (mo : Option Nat) (a2 : Option Addr) (n2 c2 : Nat) (W : World) (f : Nat → Int × Bool) (hM : Marks W mo f) (h1 : arg.size = 1) :
    Calls Tryd.prog 6 #[.agg #[.string s, .int .i64 (A : Int), .slice a1 n1 c1, .map mo, .slice a2 n2 c2], .int .u8 39, .int .i64 n, .string arg] W (GD (if (f (byteAt arg 0)).2 = true then bnd s.size (f (byteAt arg 0)).1 else 0) false (if (f (byteAt arg 0)).2 = true then 0 else 7) W) := by
  have HB := Lib.hid (fun (m : Int) (hm : -9223372036854775808 ≤ m ∧ m ≤ 9223372036854775807) W => docBound_any s hs A m hm a1 n1 c1 mo a2 n2 c2 W)
  have B0 := Lib.hid ((Below.refl W.heap.size W).alloc (Nat.le_refl _) (.cells #[.string s, .int .i64 A, .slice a1 n1 c1, .map mo, .slice a2 n2 c2] 30))
  have d16 : ((A : Nat) : Int).tdiv 16 = (A : Int) / 16 := Int.tdiv_eq_ediv_of_nonneg (by omega)
  have LK : ∀ m, (Instr.lookup 23 (.map mo) (.int .u8 ((byteAt arg 0 : Nat) : Int)) true).run Tryd.prog ((W.alloc (.cells #[.string s, .int .i64 A, .slice a1 n1 c1, .map mo, .slice a2 n2 c2] 30)).drewN m) = .ok (.tuple #[.int .i64 (f (byteAt arg 0)).1, .bool (f (byteAt arg 0)).2]) ((W.alloc (.cells #[.string s, .int .i64 A, .slice a1 n1 c1, .map mo, .slice a2 n2 c2] 30)).drewN m) := fun m => (hM _ (below_drewN B0.out m) _ (byteAt_lt arg 0)).1
  have hfb := (hM _ (Below.refl _ _) _ (byteAt_lt arg 0)).2
  have i0 : (0 : Nat) < arg.size := by omega
  have e0 := byteAt_eq arg 0 i0
  have i1 : (0 : Int) < (arg.size : Int) := by omega
  obtain ⟨ch, hch⟩ : ∃ ch, byteAt arg 0 = ch := ⟨_, rfl⟩
  rw [hch] at LK hfb e0 ⊢
  clear hM hch
  generalize f ch = fv at *
  obtain ⟨t, b⟩ := fv
  simp only at LK hfb
  cases b with
  | true =>
    rw [if_pos rfl, if_pos rfl]
    go_enter Tryd.func6, Tryd.ntmps6
    go_wp2_with fail
    go_quiet (fail)
    go_wp2_with fail
    refine (HB.out _ (by omega) _).mono ?_; rintro e w0 ⟨rfl, h0⟩
    have H0 := Lib.hid ((below_drewN B0.out nq).trans (h0.mono B0.out.size))
    clear h0
    go_wp2_with fail
    go_ret3
    exact ⟨tup3d rfl _ _, H0.out⟩
  | false =>
    rw [if_neg (by simp), if_neg (by simp)]
    go_enter Tryd.func6, Tryd.ntmps6
    go_wp2_with fail
    go_quiet (fail)
    go_wp2_with fail
    go_ret3
    exact ⟨tup3d rfl _ _, below_drewN B0.out _⟩
end Go.Proofs.YtgkmjkjcdjkffaaDoor.Mo
