/-
  PROVED HERE: that the law RealSteps returns true. Conditions: as each theorem states.
-/
import Derived.Test.YtifnochpmlllgaaDoorRows
import Derived.Test.YtifnochpmlllgaaDoorRealK
import Derived.Test.YtifnochpmlllgaaDoorRealO3
import Derived.Test.YtifnochpmlllgaaDoorRealO6
import Derived.Test.YtifnochpmlllgaaDoorRealU3
import Derived.Test.YtifnochpmlllgaaDoorRealU6
import Derived.Test.YtifnochpmlllgaaDoorRealZ3
import Derived.Test.YtifnochpmlllgaaDoorRealZ6
import Derived.Test.YtifnochpmlllgaaDoorErrB
namespace Go.Proofs.YtifnochpmlllgaaDoor.Real
open Go.RowKit

def Doc (F : Nat) (args : Array Value) (v : Value) : Prop := ∀ W', Calls Tryd.prog F args W' fun e w' => e = .returned v ∧ Below W'.heap.size W' w'

set_option maxRecDepth 100000 in
set_option maxHeartbeats 2000000 in
theorem steps_main (a b n k u v c1 c2 c3 : Int) (x y z : Value) (W : World) (hg : Err.Home W) (hm : (n = 32 ∧ bits .and .u64 a 4294967295 = b) ∨ (n ≠ 32 ∧ a = b))
    (hx : ∀ w, Err.ErrIs w x c1 (-1)) (hy : ∀ w, Err.ErrIs w y c2 (-1)) (hz : ∀ w, Err.ErrIs w z c3 (-1))
    (d1 : Doc 37 #[.int .u64 b, .int .i64 n] (.tuple #[.int .i64 k, .int .i64 c1]))
    (p1 : Doc 38 #[.int .u64 b, .int .i64 n] (.tuple #[.int .i64 k, x]))
    (d2 : Doc 39 #[.int .u64 b, .int .i64 n, .int .i64 1] (.tuple #[.int .u64 u, .int .i64 c2]))
    (p2 : Doc 40 #[.int .u64 b, .int .i64 n] (.tuple #[.int .u64 u, y]))
    (d3 : Doc 39 #[.int .u64 b, .int .i64 n, .int .i64 (-1)] (.tuple #[.int .u64 v, .int .i64 c3]))
    (p3 : Doc 41 #[.int .u64 b, .int .i64 n] (.tuple #[.int .u64 v, z])) :
    Calls Tryd.prog 8 #[.int .u64 a, .int .i64 n] W fun e w' => e = .returned (.bool true) ∧ Below W.heap.size W w' := by
  have D1 := Lib.hid d1
  have D2 := Lib.hid d2
  have D3 := Lib.hid d3
  have P1 := Lib.hid p1
  have P2 := Lib.hid p2
  have P3 := Lib.hid p3
  have HX := Lib.hid hx
  have HY := Lib.hid hy
  have HZ := Lib.hid hz
  have HG := Lib.hid hg
  clear d1 d2 d3 p1 p2 p3 hx hy hz hg
  rcases hm with ⟨rfl, hm⟩ | ⟨hn, rfl⟩
  all_goals
    go_enter Tryd.func8, Tryd.ntmps8
    go_wp2_with fail
    refine (D1.out _).mono ?_; rintro e w1 ⟨rfl, h1⟩
    have H1 := Lib.hid h1
    clear h1
    go_wp2_with fail
    refine (P1.out _).mono ?_; rintro e w2 ⟨rfl, h2⟩
    have H2 := Lib.hid (H1.out.trans (h2.mono H1.out.size))
    clear h2
    go_wp2_with fail
    refine (D2.out _).mono ?_; rintro e w3 ⟨rfl, h3⟩
    have H3 := Lib.hid (H2.out.trans (h3.mono H2.out.size))
    clear h3
    go_wp2_with fail
    refine (P2.out _).mono ?_; rintro e w4 ⟨rfl, h4⟩
    have H4 := Lib.hid (H3.out.trans (h4.mono H3.out.size))
    clear h4
    go_wp2_with fail
    refine (D3.out _).mono ?_; rintro e w5 ⟨rfl, h5⟩
    have H5 := Lib.hid (H4.out.trans (h5.mono H4.out.size))
    clear h5
    go_wp2_with fail
    refine (P3.out _).mono ?_; rintro e w6 ⟨rfl, h6⟩
    have H6 := Lib.hid (H5.out.trans (h6.mono H5.out.size))
    clear h6
    go_wp2_with fail
    refine (Err.bare_any x c1 (-1) c1 _ (HG.out.below H6.out) (HX.out _)).mono ?_; rintro e w7 ⟨rfl, h7⟩
    have H7 := Lib.hid (H6.out.trans (h7.mono H6.out.size))
    clear h7
    go_wp2_with fail
    refine (Err.bare_any y c2 (-1) c2 _ (HG.out.below H7.out) (HY.out _)).mono ?_; rintro e w8 ⟨rfl, h8⟩
    have H8 := Lib.hid (H7.out.trans (h8.mono H7.out.size))
    clear h8
    go_wp2_with fail
    refine (Err.bare_any z c3 (-1) c3 _ (HG.out.below H8.out) (HZ.out _)).mono ?_; rintro e w9 ⟨rfl, h9⟩
    have H9 := Lib.hid (H8.out.trans (h9.mono H8.out.size))
    clear h9
    go_wp2_with fail
    go_ret
    exact ⟨ret_bool (by simp), H9.out⟩

/-- What a step is told as: the bits, the document's error, the program's. -/
def Told (F : Nat) (g b n : Int) : Prop := ∃ (u c : Int) (y : Value), (∀ w, Err.ErrIs w y c (-1)) ∧ Doc 39 #[.int .u64 b, .int .i64 n, .int .i64 g] (.tuple #[.int .u64 u, .int .i64 c]) ∧ Doc F #[.int .u64 b, .int .i64 n] (.tuple #[.int .u64 u, y])
theorem e2 (w : World) : Err.ErrIs w (.iface 23 (.int .i64 2)) 2 (-1) := .inr (.inl ⟨rfl, rfl⟩)
theorem e1 (w : World) : Err.ErrIs w (.iface 23 (.int .i64 1)) 1 (-1) := .inr (.inl ⟨rfl, rfl⟩)
theorem e0 (w : World) : Err.ErrIs w .nilIface 0 (-1) := .inl ⟨rfl, rfl, rfl⟩
theorem kvD_eq : kvD = kv := rfl
theorem cls_inf {T E F : Int} (h4 : cls T E F ≠ 4) : E ≠ T ∨ F ≤ 0 := by
  by_cases h : E = T
  · unfold cls at h4; rw [if_pos h] at h4; split at h4
    · exact absurd rfl h4
    · right; omega
  · exact .inl h
theorem cls_fin {T E F : Int} (h4 : cls T E F ≠ 4) (h3 : cls T E F ≠ 3) : E ≠ T := by
  intro h; unfold cls at h4 h3; rw [if_pos h] at h4 h3; split at h4 <;> simp_all

set_option maxHeartbeats 1000000 in
theorem up_32 (b : Int) (h0 : 0 ≤ b) (h1 : b ≤ 4294967295) : Told 40 1 b 32 := by
  have h1' : b ≤ 18446744073709551615 := by omega
  have c1 := fun W => class_32 b h0 h1' W
  have c2 := fun W => key_32 b h0 h1' W
  have hl : 0 ≤ b % 2147483648 ∧ b % 2147483648 ≤ 2147483647 := by omega
  have hs : b % 2147483648 = exp32 b * 8388608 + frac32 b := by unfold exp32 frac32; omega
  obtain ⟨he0, he1⟩ := exp32_bd b
  obtain ⟨hf0, hf1⟩ := frac32_bd b
  by_cases h4 : cls 255 (exp32 b) (frac32 b) = 4
  · exact ⟨0, 2, _, e2, fun W => docNext_32_bad b 1 _ _ h0 h1' (.inl rfl) rfl rfl (.inl h4) W, fun W => up_bad b 32 _ _ (.inl h4) c1 c2 W⟩
  have hi := cls_inf h4
  cases hN : neg32 b
  · have hk : kv (neg32 b) (b % 2147483648) = b % 2147483648 := by rw [hN]; rfl
    by_cases h3 : cls 255 (exp32 b) (frac32 b) = 3
    · exact ⟨0, 2, _, e2, fun W => docNext_32_bad b 1 _ _ h0 h1' (.inl rfl) rfl rfl (.inr ⟨h3, by rw [hN]; rfl⟩) W, fun W => up_bad b 32 _ _ (.inr ⟨h3, by rw [hk]; omega⟩) c1 c2 W⟩
    · have hfin := cls_fin h4 h3
      have hz : kv (neg32 b) (b % 2147483648) + 1 = stepV 2147483648 false true (b % 2147483648) := by rw [hk]; simp [stepV]
      exact ⟨stepV 2147483648 false true (b % 2147483648), 0, _, e0, fun W => docNext_32_out b 1 _ _ h0 h1' (.inl rfl) hN rfl h4 h3 rfl W,
        fun W => up_ok b 32 _ _ _ h4 (.inl h3) (by rw [hk]; omega) c1 c2 (fun W => by rw [hz]; exact bitsOf_up _ _ (by rw [← hz, hk]; omega) (by rw [← hz, hk]; omega) W) W⟩
  · have hk : kv (neg32 b) (b % 2147483648) = -(b % 2147483648) - 1 := by rw [hN]; rfl
    by_cases hz : b % 2147483648 = 0
    · by_cases h3 : cls 255 (exp32 b) (frac32 b) = 3
      · exfalso
        have : exp32 b = 0 := by omega
        rw [this] at h3; unfold cls at h3; rw [if_neg (by decide)] at h3; split at h3 <;> (try split at h3) <;> omega
      · have hv : stepV 2147483648 true false (b % 2147483648) = 0 := by rw [hz]; rfl
        have hu : kv (neg32 b) (b % 2147483648) + 1 = 0 := by rw [hk]; omega
        exact ⟨stepV 2147483648 true false (b % 2147483648), 0, _, e0, fun W => docNext_32_zero b 1 _ _ h0 h1' (.inl rfl) hN rfl h4 h3 rfl hz W,
          fun W => up_ok b 32 _ _ _ h4 (.inr (by rw [hk]; omega)) (by rw [hk]; omega) c1 c2 (fun W => by rw [hv, hu]; exact bitsOf_up _ _ (by omega) (by omega) W) W⟩
    · have hv : stepV 2147483648 true false (b % 2147483648) = 2147483648 + (-(kv (neg32 b) (b % 2147483648) + 1) - 1) := by rw [hk]; simp [stepV, hz] <;> omega
      have hfin : kv (neg32 b) (b % 2147483648) + 1 < 0 ∧ -2147483648 < kv (neg32 b) (b % 2147483648) + 1 := by rw [hk]; omega
      exact ⟨stepV 2147483648 true false (b % 2147483648), 0, _, e0, fun W => docNext_32_in b 1 _ _ h0 h1' (.inl rfl) hN rfl h4 rfl (by omega) W,
        fun W => up_ok b 32 _ _ _ h4 (.inr (by omega)) (by rw [hk]; omega) c1 c2 (fun W => by rw [hv]; exact bitsOf_dn_32 _ hfin.1 hfin.2 W) W⟩
set_option maxHeartbeats 1000000 in
theorem down_32 (b : Int) (h0 : 0 ≤ b) (h1 : b ≤ 4294967295) : Told 41 (-1) b 32 := by
  have h1' : b ≤ 18446744073709551615 := by omega
  have c1 := fun W => class_32 b h0 h1' W
  have c2 := fun W => key_32 b h0 h1' W
  have hl : 0 ≤ b % 2147483648 ∧ b % 2147483648 ≤ 2147483647 := by omega
  have hs : b % 2147483648 = exp32 b * 8388608 + frac32 b := by unfold exp32 frac32; omega
  obtain ⟨he0, he1⟩ := exp32_bd b
  obtain ⟨hf0, hf1⟩ := frac32_bd b
  by_cases h4 : cls 255 (exp32 b) (frac32 b) = 4
  · exact ⟨0, 2, _, e2, fun W => docNext_32_bad b (-1) _ _ h0 h1' (.inr rfl) rfl rfl (.inl h4) W, fun W => down_bad b 32 _ _ (.inl h4) c1 c2 W⟩
  have hi := cls_inf h4
  cases hN : neg32 b
  · have hk : kv (neg32 b) (b % 2147483648) = b % 2147483648 := by rw [hN]; rfl
    by_cases hz : b % 2147483648 = 0
    · by_cases h3 : cls 255 (exp32 b) (frac32 b) = 3
      · exfalso
        have : exp32 b = 0 := by omega
        rw [this] at h3; unfold cls at h3; rw [if_neg (by decide)] at h3; split at h3 <;> (try split at h3) <;> omega
      · have hv : stepV 2147483648 false false (b % 2147483648) = 2147483648 + (-(kv (neg32 b) (b % 2147483648) - 1) - 1) := by rw [hk, hz]; rfl
        exact ⟨stepV 2147483648 false false (b % 2147483648), 0, _, e0, fun W => docNext_32_zero b (-1) _ _ h0 h1' (.inr rfl) hN rfl h4 h3 rfl hz W,
          fun W => down_ok b 32 _ _ _ h4 (.inl h3) (by rw [hk]; omega) c1 c2 (fun W => by rw [hv]; exact bitsOf_dn_32 _ (by rw [hk]; omega) (by rw [hk]; omega) W) W⟩
    · have hv : stepV 2147483648 false false (b % 2147483648) = kv (neg32 b) (b % 2147483648) - 1 := by rw [hk]; simp [stepV, hz]
      exact ⟨stepV 2147483648 false false (b % 2147483648), 0, _, e0, fun W => docNext_32_in b (-1) _ _ h0 h1' (.inr rfl) hN rfl h4 rfl (by omega) W,
        fun W => down_ok b 32 _ _ _ h4 (.inr (by rw [hk]; omega)) (by rw [hk]; omega) c1 c2 (fun W => by rw [hv]; exact bitsOf_up _ _ (by rw [hk]; omega) (by rw [hk]; omega) W) W⟩
  · have hk : kv (neg32 b) (b % 2147483648) = -(b % 2147483648) - 1 := by rw [hN]; rfl
    by_cases h3 : cls 255 (exp32 b) (frac32 b) = 3
    · exact ⟨0, 2, _, e2, fun W => docNext_32_bad b (-1) _ _ h0 h1' (.inr rfl) rfl rfl (.inr ⟨h3, by rw [hN]; rfl⟩) W, fun W => down_bad b 32 _ _ (.inr ⟨h3, by rw [hk]; omega⟩) c1 c2 W⟩
    · have hfin := cls_fin h4 h3
      have hv : stepV 2147483648 true true (b % 2147483648) = 2147483648 + (-(kv (neg32 b) (b % 2147483648) - 1) - 1) := by rw [hk]; simp [stepV]; omega
      exact ⟨stepV 2147483648 true true (b % 2147483648), 0, _, e0, fun W => docNext_32_out b (-1) _ _ h0 h1' (.inr rfl) hN rfl h4 h3 rfl W,
        fun W => down_ok b 32 _ _ _ h4 (.inl h3) (by rw [hk]; omega) c1 c2 (fun W => by rw [hv]; exact bitsOf_dn_32 _ (by rw [hk]; omega) (by rw [hk]; omega) W) W⟩

set_option maxHeartbeats 1000000 in
theorem up_64 (b : Int) (h0 : 0 ≤ b) (h1 : b ≤ 18446744073709551615) : Told 40 1 b 64 := by
  have h1' : b ≤ 18446744073709551615 := by omega
  have c1 := fun W => class_64 b h0 h1' W
  have c2 := fun W => key_64 b h0 h1' W
  have hl : 0 ≤ b % 9223372036854775808 ∧ b % 9223372036854775808 ≤ 9223372036854775807 := by omega
  have hs : b % 9223372036854775808 = exp64 b * 4503599627370496 + frac64 b := by unfold exp64 frac64; omega
  obtain ⟨he0, he1⟩ := exp64_bd b
  obtain ⟨hf0, hf1⟩ := frac64_bd b
  by_cases h4 : cls 2047 (exp64 b) (frac64 b) = 4
  · exact ⟨0, 2, _, e2, fun W => docNext_64_bad b 1 _ _ h0 h1' (.inl rfl) rfl rfl (.inl h4) W, fun W => up_bad b 64 _ _ (.inl h4) c1 c2 W⟩
  have hi := cls_inf h4
  cases hN : neg64 b
  · have hk : kv (neg64 b) (b % 9223372036854775808) = b % 9223372036854775808 := by rw [hN]; rfl
    by_cases h3 : cls 2047 (exp64 b) (frac64 b) = 3
    · exact ⟨0, 2, _, e2, fun W => docNext_64_bad b 1 _ _ h0 h1' (.inl rfl) rfl rfl (.inr ⟨h3, by rw [hN]; rfl⟩) W, fun W => up_bad b 64 _ _ (.inr ⟨h3, by rw [hk]; omega⟩) c1 c2 W⟩
    · have hfin := cls_fin h4 h3
      have hz : kv (neg64 b) (b % 9223372036854775808) + 1 = stepV 9223372036854775808 false true (b % 9223372036854775808) := by rw [hk]; simp [stepV]
      exact ⟨stepV 9223372036854775808 false true (b % 9223372036854775808), 0, _, e0, fun W => docNext_64_out b 1 _ _ h0 h1' (.inl rfl) hN rfl h4 h3 rfl W,
        fun W => up_ok b 64 _ _ _ h4 (.inl h3) (by rw [hk]; omega) c1 c2 (fun W => by rw [hz]; exact bitsOf_up _ _ (by rw [← hz, hk]; omega) (by rw [← hz, hk]; omega) W) W⟩
  · have hk : kv (neg64 b) (b % 9223372036854775808) = -(b % 9223372036854775808) - 1 := by rw [hN]; rfl
    by_cases hz : b % 9223372036854775808 = 0
    · by_cases h3 : cls 2047 (exp64 b) (frac64 b) = 3
      · exfalso
        have : exp64 b = 0 := by omega
        rw [this] at h3; unfold cls at h3; rw [if_neg (by decide)] at h3; split at h3 <;> (try split at h3) <;> omega
      · have hv : stepV 9223372036854775808 true false (b % 9223372036854775808) = 0 := by rw [hz]; rfl
        have hu : kv (neg64 b) (b % 9223372036854775808) + 1 = 0 := by rw [hk]; omega
        exact ⟨stepV 9223372036854775808 true false (b % 9223372036854775808), 0, _, e0, fun W => docNext_64_zero b 1 _ _ h0 h1' (.inl rfl) hN rfl h4 h3 rfl hz W,
          fun W => up_ok b 64 _ _ _ h4 (.inr (by rw [hk]; omega)) (by rw [hk]; omega) c1 c2 (fun W => by rw [hv, hu]; exact bitsOf_up _ _ (by omega) (by omega) W) W⟩
    · have hv : stepV 9223372036854775808 true false (b % 9223372036854775808) = 9223372036854775808 + (-(kv (neg64 b) (b % 9223372036854775808) + 1) - 1) := by rw [hk]; simp [stepV, hz] <;> omega
      have hfin : kv (neg64 b) (b % 9223372036854775808) + 1 < 0 ∧ -9223372036854775808 < kv (neg64 b) (b % 9223372036854775808) + 1 := by rw [hk]; omega
      exact ⟨stepV 9223372036854775808 true false (b % 9223372036854775808), 0, _, e0, fun W => docNext_64_in b 1 _ _ h0 h1' (.inl rfl) hN rfl h4 rfl (by omega) W,
        fun W => up_ok b 64 _ _ _ h4 (.inr (by omega)) (by rw [hk]; omega) c1 c2 (fun W => by rw [hv]; exact bitsOf_dn_64 _ hfin.1 hfin.2 W) W⟩
set_option maxHeartbeats 1000000 in
theorem down_64 (b : Int) (h0 : 0 ≤ b) (h1 : b ≤ 18446744073709551615) : Told 41 (-1) b 64 := by
  have h1' : b ≤ 18446744073709551615 := by omega
  have c1 := fun W => class_64 b h0 h1' W
  have c2 := fun W => key_64 b h0 h1' W
  have hl : 0 ≤ b % 9223372036854775808 ∧ b % 9223372036854775808 ≤ 9223372036854775807 := by omega
  have hs : b % 9223372036854775808 = exp64 b * 4503599627370496 + frac64 b := by unfold exp64 frac64; omega
  obtain ⟨he0, he1⟩ := exp64_bd b
  obtain ⟨hf0, hf1⟩ := frac64_bd b
  by_cases h4 : cls 2047 (exp64 b) (frac64 b) = 4
  · exact ⟨0, 2, _, e2, fun W => docNext_64_bad b (-1) _ _ h0 h1' (.inr rfl) rfl rfl (.inl h4) W, fun W => down_bad b 64 _ _ (.inl h4) c1 c2 W⟩
  have hi := cls_inf h4
  cases hN : neg64 b
  · have hk : kv (neg64 b) (b % 9223372036854775808) = b % 9223372036854775808 := by rw [hN]; rfl
    by_cases hz : b % 9223372036854775808 = 0
    · by_cases h3 : cls 2047 (exp64 b) (frac64 b) = 3
      · exfalso
        have : exp64 b = 0 := by omega
        rw [this] at h3; unfold cls at h3; rw [if_neg (by decide)] at h3; split at h3 <;> (try split at h3) <;> omega
      · have hv : stepV 9223372036854775808 false false (b % 9223372036854775808) = 9223372036854775808 + (-(kv (neg64 b) (b % 9223372036854775808) - 1) - 1) := by rw [hk, hz]; rfl
        exact ⟨stepV 9223372036854775808 false false (b % 9223372036854775808), 0, _, e0, fun W => docNext_64_zero b (-1) _ _ h0 h1' (.inr rfl) hN rfl h4 h3 rfl hz W,
          fun W => down_ok b 64 _ _ _ h4 (.inl h3) (by rw [hk]; omega) c1 c2 (fun W => by rw [hv]; exact bitsOf_dn_64 _ (by rw [hk]; omega) (by rw [hk]; omega) W) W⟩
    · have hv : stepV 9223372036854775808 false false (b % 9223372036854775808) = kv (neg64 b) (b % 9223372036854775808) - 1 := by rw [hk]; simp [stepV, hz]
      exact ⟨stepV 9223372036854775808 false false (b % 9223372036854775808), 0, _, e0, fun W => docNext_64_in b (-1) _ _ h0 h1' (.inr rfl) hN rfl h4 rfl (by omega) W,
        fun W => down_ok b 64 _ _ _ h4 (.inr (by rw [hk]; omega)) (by rw [hk]; omega) c1 c2 (fun W => by rw [hv]; exact bitsOf_up _ _ (by rw [hk]; omega) (by rw [hk]; omega) W) W⟩
  · have hk : kv (neg64 b) (b % 9223372036854775808) = -(b % 9223372036854775808) - 1 := by rw [hN]; rfl
    by_cases h3 : cls 2047 (exp64 b) (frac64 b) = 3
    · exact ⟨0, 2, _, e2, fun W => docNext_64_bad b (-1) _ _ h0 h1' (.inr rfl) rfl rfl (.inr ⟨h3, by rw [hN]; rfl⟩) W, fun W => down_bad b 64 _ _ (.inr ⟨h3, by rw [hk]; omega⟩) c1 c2 W⟩
    · have hfin := cls_fin h4 h3
      have hv : stepV 9223372036854775808 true true (b % 9223372036854775808) = 9223372036854775808 + (-(kv (neg64 b) (b % 9223372036854775808) - 1) - 1) := by rw [hk]; simp [stepV]; omega
      exact ⟨stepV 9223372036854775808 true true (b % 9223372036854775808), 0, _, e0, fun W => docNext_64_out b (-1) _ _ h0 h1' (.inr rfl) hN rfl h4 h3 rfl W,
        fun W => down_ok b 64 _ _ _ h4 (.inl h3) (by rw [hk]; omega) c1 c2 (fun W => by rw [hv]; exact bitsOf_dn_64 _ (by rw [hk]; omega) (by rw [hk]; omega) W) W⟩

theorem told_no_up (b n : Int) (h32 : n ≠ 32) (h64 : n ≠ 64) : Told 40 1 b n := ⟨0, 1, _, e1, fun W => docNext_no b n 1 h32 h64 W, fun W => up_no b n h32 h64 W⟩
theorem told_no_down (b n : Int) (h32 : n ≠ 32) (h64 : n ≠ 64) : Told 41 (-1) b n := ⟨0, 1, _, e1, fun W => docNext_no b n (-1) h32 h64 W, fun W => down_no b n h32 h64 W⟩
theorem realSteps_walk (a0 a1 : Int) (w0 : (Lit.int .u64 a0).wf = true) (W : World) (hg : Err.Home W) :
    Calls Tryd.prog 8 #[.int .u64 a0, .int .i64 a1] W fun e w' => e = .returned (.bool true) ∧ Below W.heap.size W w' := by
  obtain ⟨b0, b1⟩ := bounds_u64 w0
  have join : ∀ (b k c1 : Int) (x : Value), ((a1 = 32 ∧ bits .and .u64 a0 4294967295 = b) ∨ (a1 ≠ 32 ∧ a0 = b)) → (∀ w, Err.ErrIs w x c1 (-1)) →
      Doc 37 #[.int .u64 b, .int .i64 a1] (.tuple #[.int .i64 k, .int .i64 c1]) → Doc 38 #[.int .u64 b, .int .i64 a1] (.tuple #[.int .i64 k, x]) →
      Told 40 1 b a1 → Told 41 (-1) b a1 → Calls Tryd.prog 8 #[.int .u64 a0, .int .i64 a1] W fun e w' => e = .returned (.bool true) ∧ Below W.heap.size W w' := by
    intro b k c1 x hm hx d1 p1 ⟨u, c2, y, hy, d2, p2⟩ ⟨v, c3, z, hz, d3, p3⟩
    exact steps_main a0 b a1 k u v c1 c2 c3 x y z W hg hm hx hy hz d1 p1 d2 p2 d3 p3
  by_cases h32 : a1 = 32
  · have hm : bits .and .u64 a0 4294967295 = a0 % 4294967296 := and_mask _ 32 (by omega) (by omega) (by omega)
    subst h32
    exact join _ _ 0 _ (.inl ⟨rfl, hm⟩) e0 (fun W => docKey_32 _ (by omega) (by omega) W) (fun W => key_32 _ (by omega) (by omega) W) (up_32 _ (by omega) (by omega)) (down_32 _ (by omega) (by omega))
  by_cases h64 : a1 = 64
  · subst h64
    exact join a0 _ 0 _ (.inr ⟨by decide, rfl⟩) e0 (fun W => docKey_64 _ b0 b1 W) (fun W => key_64 _ b0 b1 W) (up_64 _ b0 b1) (down_64 _ b0 b1)
  · exact join a0 0 1 _ (.inr ⟨h32, rfl⟩) e1 (fun W => docKey_no a0 a1 h32 h64 W) (fun W => key_no a0 a1 h32 h64 W) (told_no_up _ _ h32 h64) (told_no_down _ _ h32 h64)
end Go.Proofs.YtifnochpmlllgaaDoor.Real
