/-
  PROVED HERE: the contracts of motion's last, bound and next. Conditions: as each theorem states.
-/
import Derived.Test.YtgkmjkjcdjkffaaDoorMoA
import Derived.Test.YtgkmjkjcdjkffaaDoorOwn
import Derived.Test.YtgkmjkjcdjkffaaDoorTac
import Derived.Test.YtgkmjkjcdjkffaaDoorRows
namespace Go.Proofs.YtgkmjkjcdjkffaaDoor.Mo
open Go.RowKit
set_option maxRecDepth 100000 in
theorem last_any (s : ByteArray) (hs : s.size ≤ 1000) (A : Int) (a1 : Option Addr) (n1 c1 : Nat) (mo : Option Nat) (a2 : Option Addr) (n2 c2 : Nat) (W : World) :
    Calls Tryd.prog 21 #[.agg #[.string s, .int .i64 A, .slice a1 n1 c1, .map mo, .slice a2 n2 c2]] W fun e w' => e = .returned (.int .i64 (max ((s.size : Int) - 1) 0)) ∧ Below W.heap.size W w' := by
  go_enter Tryd.func21, Tryd.ntmps21
  go_wp2_with fail
  all_goals
    go_ret
    exact ⟨ret_int (by omega), (Below.refl _ _).alloc (Nat.le_refl _) _⟩
set_option maxRecDepth 100000 in
theorem bound_any (s : ByteArray) (hs : s.size ≤ 1000) (A n : Int) (hn : -9223372036854775808 ≤ n ∧ n ≤ 9223372036854775807) (a1 : Option Addr) (n1 c1 : Nat) (mo : Option Nat) (a2 : Option Addr) (n2 c2 : Nat) (W : World) :
    Calls Tryd.prog 20 #[.agg #[.string s, .int .i64 A, .slice a1 n1 c1, .map mo, .slice a2 n2 c2], .int .i64 n] W fun e w' => e = .returned (.int .i64 (bnd s.size n)) ∧ Below W.heap.size W w' := by
  have C := Lib.hid (fun W => last_any s hs A a1 n1 c1 mo a2 n2 c2 W)
  obtain ⟨l, hl⟩ : ∃ l : Int, max ((s.size : Int) - 1) 0 = l := ⟨_, rfl⟩
  have hb : bnd s.size n = max 0 (min n l) := by unfold bnd; rw [hl]
  rw [hl] at C
  rw [hb]
  clear hb
  go_enter Tryd.func20, Tryd.ntmps20
  go_wp2_with fail
  refine (C.out _).mono ?_; rintro e w1 ⟨rfl, h1⟩
  have H1 := Lib.hid (((Below.refl _ W).alloc (Nat.le_refl _) _).trans (h1.mono (by simp)))
  clear h1
  go_wp2_with fail
  all_goals
    go_ret
    exact ⟨ret_int (by omega), H1.out⟩
def NxR (l : List Int) (a : Int) (W : World) (i : Value) (wr : World) : Prop := ∃ k : Nat, k ≤ l.length ∧ i = .int .i64 k ∧ Hid (∀ j (hj : j < l.length), j < k → ¬ a < l[j]) ∧ wr = W
def OfR (l : List Int) (a : Int) (W : World) (t i : Value) (wr : World) : Prop := ∃ k : Nat, ∃ u : Int, k ≤ l.length ∧ i = .int .i64 k ∧ t = .int .i64 u ∧ Hid (OF l a k u) ∧ wr = W
theorem getD_is (l : List Int) (k : Nat) (h : k < l.length) : l.getD k 0 = l[k] := by
  rw [List.getD_eq_getElem?_getD, List.getElem?_eq_getElem h]; rfl
set_option maxRecDepth 100000 in
set_option maxHeartbeats 2000000 in
theorem next_on (v : Value) (l : List Int) (a : Int) (hl : l.length ≤ 100000) (h0 : 0 < l.length) (hr : Ris l) (W : World) (hi : Ints W v l) :
    Calls Tryd.prog 32 #[v, .int .i64 a, .bool true] W fun e w' => e = .returned (.int .i64 (nt true l a)) ∧ w' = W := by
  obtain ⟨ad, cap, rfl, hc⟩ := hi
  have HC := Lib.hid hc
  obtain ⟨ad0, rfl, hc0⟩ := hc 0 h0
  rw [show ad0.add 0 = ad0 by simp [Addr.add]] at hc0
  clear hc
  go_enter Tryd.func32, Tryd.ntmps32
  go_wp2_with fail
  go_loopw [15] (fun i wr => NxR l a W i wr) (fun i _ => l.length - (intOf i).toNat)
  case atStart => exact ⟨0, Nat.zero_le _, rfl, Lib.hid (fun j hj h => absurd h (Nat.not_lt_zero _)), rfl⟩
  case round =>
    obtain ⟨k, hk, rfl, hn, rfl⟩ := hrel
    by_cases hlt : k < l.length
    · obtain ⟨ad1, h1, hck⟩ := HC.out k hlt
      injection h1 with h1
      subst h1
      by_cases c : a < l[k]
      · have HR := Lib.hid (nt_is (on_hit hr k hlt hn.out c))
        generalize l[k] = x at *
        go_wp2_with fail
        go_ret
        exact ⟨by rw [HR.out]; rfl, rfl⟩
      · have HN : Hid (∀ j (hj : j < l.length), j < k + 1 → ¬ a < l[j]) := Lib.hid (fun j hj hjk => by
          by_cases e : j = k
          · subst e; exact c
          · exact hn.out j hj (by omega))
        generalize l[k] = x at *
        go_wp2_with fail
        go_roundw
        case rel => first | exact ⟨k + 1, by omega, by go_num, HN, rfl⟩ | ((repeat apply Exists.intro); exact ⟨⟨k + 1, by omega, by go_num, HN, rfl⟩, rfl⟩)
        case measure => simp [intOf]; omega
    · obtain rfl : k = l.length := by omega
      have HR := Lib.hid (nt_is (on_end hr h0 (fun j hj => hn.out j hj hj)))
      generalize l[0] = x at *
      go_wp2_with fail
      go_ret
      exact ⟨by rw [HR.out]; rfl, rfl⟩
set_option maxRecDepth 100000 in
set_option maxHeartbeats 2000000 in
theorem next_off (v : Value) (l : List Int) (a : Int) (hl : l.length ≤ 100000) (h0 : 0 < l.length) (hr : Ris l) (W : World) (hi : Ints W v l) :
    Calls Tryd.prog 32 #[v, .int .i64 a, .bool false] W fun e w' => e = .returned (.int .i64 (nt false l a)) ∧ w' = W := by
  obtain ⟨ad, cap, rfl, hc⟩ := hi
  have HC := Lib.hid hc
  obtain ⟨ad0, rfl, hc0⟩ := hc 0 h0
  rw [show ad0.add 0 = ad0 by simp [Addr.add]] at hc0
  obtain ⟨ad1, h1, hcl⟩ := hc (l.length - 1) (by omega)
  injection h1 with h1
  subst h1
  rw [← last_get h0] at hcl
  have hidx : ((l.length : Int) - 1).toNat = l.length - 1 := by omega
  clear hc
  obtain ⟨z, hz⟩ : ∃ z, l.getLastD 0 = z := ⟨_, rfl⟩
  rw [hz] at hcl
  have HZ := Lib.hid hz
  clear hz
  have i1 : (0 : Int) ≤ (l.length : Int) - 1 := by omega
  have i2 : (l.length : Int) - 1 < (l.length : Int) := by omega
  go_enter Tryd.func32, Tryd.ntmps32
  go_wp2_with fail
  go_loopw [9, 35] (fun t i wr => OfR l a W t i wr) (fun _ i _ => l.length - (intOf i).toNat)
  case atStart => exact ⟨0, z, Nat.zero_le _, rfl, rfl, Lib.hid (by rw [← HZ.out]; exact of_zero l a), rfl⟩
  case round =>
    obtain ⟨k, u, hk, rfl, rfl, ho, rfl⟩ := hrel
    by_cases hlt : k < l.length
    · obtain ⟨ad1, h1, hck⟩ := HC.out k hlt
      injection h1 with h1
      subst h1
      by_cases c : l[k] < a
      · have HN := Lib.hid (of_yes (t := u) hr hlt c)
        generalize l[k] = x at *
        go_wp2_with fail
        go_roundw
        case rel => first | exact ⟨k + 1, _, by omega, by go_num, rfl, HN, rfl⟩ | ((repeat apply Exists.intro); exact ⟨⟨k + 1, _, by omega, by go_num, rfl, HN, rfl⟩, rfl⟩)
        case measure => simp [intOf]; omega
      · have HN := Lib.hid (of_no ho.out hlt c)
        generalize l[k] = x at *
        go_wp2_with fail
        go_roundw
        case rel => first | exact ⟨k + 1, _, by omega, by go_num, rfl, HN, rfl⟩ | ((repeat apply Exists.intro); exact ⟨⟨k + 1, _, by omega, by go_num, rfl, HN, rfl⟩, rfl⟩)
        case measure => simp [intOf]; omega
    · obtain rfl : k = l.length := by omega
      by_cases c : a ≤ l[0]
      · have HR := Lib.hid (nt_is (off_first hr h0 c))
        rw [HZ.out] at HR
        generalize l[0] = x at *
        go_wp2_with fail
        go_ret
        exact ⟨by rw [HR.out]; rfl, rfl⟩
      · have HR := Lib.hid (nt_is (off_end h0 c ho.out))
        generalize l[0] = x at *
        go_wp2_with fail
        go_ret
        exact ⟨by rw [HR.out]; rfl, rfl⟩
theorem next_any (on : Bool) (v : Value) (l : List Int) (a : Int) (hl : l.length ≤ 100000) (h0 : 0 < l.length) (hr : Ris l) (W : World) (hi : Ints W v l) :
    Calls Tryd.prog 32 #[v, .int .i64 a, .bool on] W fun e w' => e = .returned (.int .i64 (nt on l a)) ∧ w' = W := by
  cases on
  · exact next_off v l a hl h0 hr W hi
  · exact next_on v l a hl h0 hr W hi
end Go.Proofs.YtgkmjkjcdjkffaaDoor.Mo
