/-
  PROVED HERE: contracts of sums.Fletcher, sums.Adler and the document's SumPairs over every text of at most 1000 bytes, and that the law SumsPairs returns true. Conditions: as each theorem states.
-/
import Derived.Test.YtebjccenlfhilaaRows
import Derived.WalkKit
import Derived.WalkLawsBesides
import Derived.WalkSpells
import Derived.BigQuiet
import Derived.Deep.QuietTactic
import Derived.Outline
import Derived.Lib.Hide
namespace Go.Proofs.Ytebjccenlfhilaa
open Go.RowKit

def flA (m from_ : Nat) (s : ByteArray) : Nat → Nat
  | 0 => from_
  | k + 1 => (flA m from_ s k + (s.data[k]?.getD 0).toNat) % m
def flB (m from_ : Nat) (s : ByteArray) : Nat → Nat
  | 0 => 0
  | k + 1 => (flB m from_ s k + flA m from_ s (k + 1)) % m

theorem getD_eq (s : ByteArray) (k : Nat) (h : k < s.size) : s.data[k]?.getD 0 = s[k] := by
  have h' : k < s.data.size := h
  rw [Array.getElem?_eq_getElem h']; rfl
theorem flA_lt (m f : Nat) (s : ByteArray) (hm : f < m) : ∀ k, flA m f s k < m
  | 0 => hm
  | k + 1 => Nat.mod_lt _ (by omega)
theorem flB_lt (m f : Nat) (s : ByteArray) (hm : f < m) : ∀ k, flB m f s k < m
  | 0 => by show 0 < m; omega
  | k + 1 => Nat.mod_lt _ (by omega)
theorem flA_succ (m f : Nat) (s : ByteArray) (k : Nat) (h : k < s.size) : ((flA m f s (k + 1) : Nat) : Int) = ((flA m f s k : Nat) + (s[k].toNat : Int)) % (m : Int) := by
  rw [flA, getD_eq s k h]; simp
theorem flB_succ (m f : Nat) (s : ByteArray) (k : Nat) : ((flB m f s (k + 1) : Nat) : Int) = ((flB m f s k : Nat) + (flA m f s (k + 1) : Nat)) % (m : Int) := by
  rw [flB]; simp

theorem or_join (a b i : Nat) (ha : a * 2 ^ i < 4294967296) (hb : b < 2 ^ i) (hi : 2 ^ i ≤ 4294967296) : bits .or .u32 ((a : Int) * ((2 ^ i : Nat) : Int)) (b : Int) = (a : Int) * ((2 ^ i : Nat) : Int) + b := by
  have h := u32_or_nat (a * 2 ^ i) b ha (by omega)
  rw [nat_join i _ _ (Nat.mul_mod_left _ _) hb] at h
  simpa using h
theorem ret_int {k : IntKind} {a b : Int} (h : a = b) : Ending.returned (.int k a) = .returned (.int k b) := by rw [h]

set_option maxHeartbeats 400000 in
theorem fletcher_any (s : ByteArray) (hs : s.size ≤ 1000) (w : World) :
    Calls Try.prog 9 #[.string s] w fun e w' => e = .returned (.int .u32 ((flB 255 0 s s.size * 256 + flA 255 0 s s.size : Nat) : Int)) ∧ w = w' := by
  go_enter Try.func9, Try.ntmps9
  go_wp2
  go_loop [3, 4, 8] (fun a b i => ∃ k : Nat, k ≤ s.size ∧ i = .int .i64 k ∧ a = .int .u32 (flA 255 0 s k : Nat) ∧ b = .int .u32 (flB 255 0 s k : Nat)) (fun _ _ i => s.size - (intOf i).toNat)
  case atStart => exact ⟨0, Nat.zero_le _, rfl, rfl, rfl⟩
  case round =>
    obtain ⟨k, hk, rfl, rfl, rfl⟩ := hrel
    have ha := flA_lt 255 0 s (by omega) k
    have hb := flB_lt 255 0 s (by omega) k
    by_cases hlt : k < s.size
    · have ha' := flA_lt 255 0 s (by omega) (k + 1)
      have HA := Lib.hid (flA_succ 255 0 s k hlt)
      have HB := Lib.hid (flB_succ 255 0 s k)
      have hbyte : s[k].toNat < 256 := UInt8.toNat_lt _
      go_wp2
      go_round
      case rel => exact ⟨k + 1, by omega, by go_num, by rw [HA.out]; rfl, by rw [HB.out, HA.out]; rfl⟩
      case measure => simp [intOf]; omega
    · obtain rfl : k = s.size := by omega
      go_wp2
      go_ret
      exact ⟨ret_int (by have h := or_join (flB 255 0 s s.size) (flA 255 0 s s.size) 8 (by omega) (by omega) (by omega); simpa using h), rfl⟩

set_option maxHeartbeats 400000 in
theorem adler_any (s : ByteArray) (hs : s.size ≤ 1000) (w : World) :
    Calls Try.prog 10 #[.string s] w fun e w' => e = .returned (.int .u32 ((flB 65521 1 s s.size * 65536 + flA 65521 1 s s.size : Nat) : Int)) ∧ w = w' := by
  go_enter Try.func10, Try.ntmps10
  go_wp2
  go_loop [3, 4, 8] (fun a b i => ∃ k : Nat, k ≤ s.size ∧ i = .int .i64 k ∧ a = .int .u32 (flA 65521 1 s k : Nat) ∧ b = .int .u32 (flB 65521 1 s k : Nat)) (fun _ _ i => s.size - (intOf i).toNat)
  case atStart => exact ⟨0, Nat.zero_le _, rfl, rfl, rfl⟩
  case round =>
    obtain ⟨k, hk, rfl, rfl, rfl⟩ := hrel
    have ha := flA_lt 65521 1 s (by omega) k
    have hb := flB_lt 65521 1 s (by omega) k
    by_cases hlt : k < s.size
    · have ha' := flA_lt 65521 1 s (by omega) (k + 1)
      have HA := Lib.hid (flA_succ 65521 1 s k hlt)
      have HB := Lib.hid (flB_succ 65521 1 s k)
      have hbyte : s[k].toNat < 256 := UInt8.toNat_lt _
      go_wp2
      go_round
      case rel => exact ⟨k + 1, by omega, by go_num, by rw [HA.out]; rfl, by rw [HB.out, HA.out]; rfl⟩
      case measure => simp [intOf]; omega
    · obtain rfl : k = s.size := by omega
      go_wp2
      go_ret
      exact ⟨ret_int (by have h := or_join (flB 65521 1 s s.size) (flA 65521 1 s s.size) 16 (by omega) (by omega) (by omega); simpa using h), rfl⟩

/-! the document's two sums -/
def spA (s : ByteArray) (f : Nat) : Nat → Nat
  | 0 => f
  | k + 1 => spA s f k + (s.data[k]?.getD 0).toNat
def spB (s : ByteArray) (n : Nat) : Nat → Nat
  | 0 => 0
  | k + 1 => spB s n k + (s.data[k]?.getD 0).toNat * (n - k)
theorem spA_le (s : ByteArray) (f : Nat) : ∀ k, spA s f k ≤ f + 255 * k
  | 0 => by simp [spA]
  | k + 1 => by have := spA_le s f k; have h := UInt8.toNat_lt (s.data[k]?.getD 0); simp only [spA]; omega
theorem spB_le (s : ByteArray) (n : Nat) : ∀ k, spB s n k ≤ 255 * n * k
  | 0 => by simp [spB]
  | k + 1 => by
    have := spB_le s n k
    have h : (s.data[k]?.getD 0).toNat ≤ 255 := by have := UInt8.toNat_lt (s.data[k]?.getD 0); omega
    have h2 : (s.data[k]?.getD 0).toNat * (n - k) ≤ 255 * n := Nat.mul_le_mul h (Nat.sub_le _ _)
    simp only [spB]
    rw [Nat.mul_add, Nat.mul_one]
    omega
theorem spA_succ (s : ByteArray) (f k : Nat) (h : k < s.size) : ((spA s f (k + 1) : Nat) : Int) = (spA s f k : Nat) + (s[k].toNat : Int) := by
  rw [spA, getD_eq s k h]; simp
theorem spB_succ (s : ByteArray) (k : Nat) (h : k < s.size) : ((spB s s.size (k + 1) : Nat) : Int) = (spB s s.size k : Nat) + (s[k].toNat : Int) * ((s.size : Int) - (k : Int)) := by
  rw [spB, getD_eq s k h, Int.natCast_add, Int.natCast_mul, Int.ofNat_sub (Nat.le_of_lt h)]
theorem byte_mul (x n : Nat) (hx : x < 256) (hn : n ≤ 1000) : x * n ≤ 255000 := by
  calc x * n ≤ 255 * 1000 := Nat.mul_le_mul (by omega) hn
    _ = 255000 := rfl

set_option maxHeartbeats 400000 in
theorem pairs_any (s : ByteArray) (f m : Int) (hs : s.size ≤ 1000) (hf : 0 ≤ f) (hf1 : f ≤ 1) (hm : 1 ≤ m) (hm' : m ≤ 65521) (w : World) :
    Calls Try.prog 8 #[.string s, .int .u64 f, .int .u64 m] w fun e w' => e = .returned (.tuple #[.int .u64 ((spA s f.toNat s.size : Nat) % m), .int .u64 (((spB s s.size s.size : Nat) + f * (s.size : Int)) % m)]) ∧ ∃ n, w' = w.drewN n := by
  obtain ⟨f, rfl⟩ := Int.eq_ofNat_of_zero_le hf
  rw [Int.toNat_natCast]
  go_enter Try.func8, Try.ntmps8
  go_wp2
  go_loop [8, 9, 10] (fun a b i => ∃ k : Nat, k ≤ s.size ∧ i = .int .i64 k ∧ a = .int .u64 (spA s f k : Nat) ∧ b = .int .u64 (spB s s.size k : Nat)) (fun _ _ i => s.size - (intOf i).toNat)
  case atStart => exact ⟨0, Nat.zero_le _, rfl, rfl, rfl⟩
  case round =>
    obtain ⟨k, hk, rfl, rfl, rfl⟩ := hrel
    have ha := spA_le s f k
    have hb : spB s s.size k ≤ 255000000 := Nat.le_trans (spB_le s s.size k) (by
      calc 255 * s.size * k ≤ 255 * 1000 * 1000 := Nat.mul_le_mul (Nat.mul_le_mul_left _ hs) (by omega)
        _ = 255000000 := rfl)
    by_cases hlt : k < s.size
    · have HA := Lib.hid (spA_succ s f k hlt)
      have HB := Lib.hid (spB_succ s k hlt)
      have hbyte : s[k].toNat < 256 := UInt8.toNat_lt _
      have hmul : (s[k].toNat : Int) * ((s.size : Int) - (k : Int)) ≤ 255000 := by
        have := byte_mul s[k].toNat (s.size - k) hbyte (by omega)
        have e : ((s[k].toNat * (s.size - k) : Nat) : Int) = (s[k].toNat : Int) * ((s.size : Int) - (k : Int)) := by rw [Int.natCast_mul, Int.ofNat_sub hk]
        omega
      have hmul0 : 0 ≤ (s[k].toNat : Int) * ((s.size : Int) - (k : Int)) := Int.mul_nonneg (by omega) (by omega)
      go_wp2
      go_round
      case rel => exact ⟨k + 1, by omega, by go_num, by rw [HA.out], by rw [HB.out]; go_num⟩
      case measure => simp [intOf]; omega
    · obtain rfl : k = s.size := by omega
      have hf0 : (0 : Int) ≤ (f : Int) * (s.size : Int) := Int.mul_nonneg (by omega) (by omega)
      have hf2 : (f : Int) * (s.size : Int) ≤ 1000 := by
        have h : f * s.size ≤ 1 * 1000 := Nat.mul_le_mul (by omega) hs
        rw [← Int.natCast_mul]; omega
      go_wp2
      go_quiet (fail)
      go_wp2
      go_ret2
      exact ⟨by simp, _, rfl⟩

/-! the two ways come to the same -/
def spT (s : ByteArray) (f : Nat) : Nat → Nat
  | 0 => 0
  | k + 1 => spT s f k + spA s f (k + 1)
theorem flA_eq (m f : Nat) (s : ByteArray) (hf : f < m) : ∀ k, flA m f s k = spA s f k % m
  | 0 => (Nat.mod_eq_of_lt hf).symm
  | k + 1 => by rw [flA, flA_eq m f s hf k, spA, Nat.mod_add_mod]
theorem flB_eq (m f : Nat) (s : ByteArray) (hf : f < m) : ∀ k, flB m f s k = spT s f k % m
  | 0 => by simp [flB, spT]
  | k + 1 => by rw [flB, flB_eq m f s hf k, flA_eq m f s hf (k + 1), spT, Nat.mod_add_mod, Nat.add_mod_mod]
theorem spA_from (s : ByteArray) (f : Nat) : ∀ k, spA s f k = f + spA s 0 k
  | 0 => rfl
  | k + 1 => by rw [spA, spA_from s f k, spA]; omega
theorem spT_from (s : ByteArray) (f : Nat) : ∀ k, spT s f k = f * k + spT s 0 k
  | 0 => rfl
  | k + 1 => by rw [spT, spT_from s f k, spA_from s f (k + 1), spT, Nat.mul_add]; omega
theorem spB_eq (s : ByteArray) (n : Nat) : ∀ k, k ≤ n → spB s n k = spT s 0 k + (n - k) * spA s 0 k
  | 0, _ => by simp [spB, spT, spA]
  | k + 1, h => by
    rw [spB, spB_eq s n k (by omega), spT, spA]
    generalize (s.data[k]?.getD 0).toNat = c
    generalize spA s 0 k = a
    obtain ⟨d, rfl⟩ : ∃ d, n = k + 1 + d := ⟨n - (k + 1), by omega⟩
    have e1 : k + 1 + d - k = d + 1 := by omega
    have e2 : k + 1 + d - (k + 1) = d := by omega
    rw [e1, e2, Nat.add_mul, Nat.mul_add, Nat.mul_add, Nat.mul_comm c d]
    omega
theorem fletcher_is (s : ByteArray) : (flB 255 0 s s.size : Nat) = spB s s.size s.size % 255 ∧ flA 255 0 s s.size = spA s 0 s.size % 255 := by
  rw [flB_eq 255 0 s (by omega), flA_eq 255 0 s (by omega), spB_eq s _ _ (Nat.le_refl _)]; simp
theorem adler_is (s : ByteArray) : (flB 65521 1 s s.size : Nat) = (spB s s.size s.size + s.size) % 65521 ∧ flA 65521 1 s s.size = spA s 1 s.size % 65521 := by
  rw [flB_eq 65521 1 s (by omega), flA_eq 65521 1 s (by omega), spB_eq s _ _ (Nat.le_refl _), spT_from]; simp [Nat.add_comm]

theorem fletcher_doc (s : ByteArray) (hs : s.size ≤ 1000) (w : World) :
    Calls Try.prog 9 #[.string s] w fun e w' => e = .returned (.int .u32 ((spB s s.size s.size : Nat) % 255 * 256 + (spA s 0 s.size : Nat) % 255)) ∧ w = w' :=
  (fletcher_any s hs w).mono fun e w' ⟨he, hw⟩ => ⟨by rw [he, (fletcher_is s).1, (fletcher_is s).2]; simp, hw⟩
theorem adler_doc (s : ByteArray) (hs : s.size ≤ 1000) (w : World) :
    Calls Try.prog 10 #[.string s] w fun e w' => e = .returned (.int .u32 (((spB s s.size s.size : Nat) + (s.size : Nat)) % 65521 * 65536 + (spA s 1 s.size : Nat) % 65521)) ∧ w = w' :=
  (adler_any s hs w).mono fun e w' ⟨he, hw⟩ => ⟨by rw [he, (adler_is s).1, (adler_is s).2]; simp, hw⟩

theorem grown_drewN (w : World) (n : Nat) : Grown w (w.drewN n) := Grown.refl w

set_option maxHeartbeats 400000 in
theorem sumsPairs_walk (a0 : ByteArray) (w0 : a0.size ≤ maxLen) (w : World) :
    Calls Try.prog 3 #[.string a0] w fun e w' => e = .returned (.bool true) ∧ Grown w w' := by
  unfold maxLen at w0
  by_cases hs : a0.size ≤ 1000
  · go_enter Try.func3, Try.ntmps3
    go_wp2_with fail
    refine (pairs_any a0 _ _ hs (by omega) (by omega) (by omega) (by omega) _).mono ?_
    rintro e w' ⟨rfl, n, rfl⟩
    go_wp2_with fail
    refine (pairs_any a0 _ _ hs (by omega) (by omega) (by omega) (by omega) _).mono ?_
    rintro e w' ⟨rfl, n2, rfl⟩
    go_wp2_with fail
    refine (fletcher_doc a0 hs _).mono ?_
    rintro e w' ⟨rfl, rfl⟩
    go_wp2_with fail
    refine (adler_doc a0 hs _).mono ?_
    rintro e w' ⟨rfl, rfl⟩
    go_wp2_with fail
    go_ret
    exact ⟨by simp, grown_drewN _ _⟩
  · go_enter Try.func3, Try.ntmps3
    go_wp2_with fail
    go_ret
    exact ⟨rfl, Grown.refl _⟩
end Go.Proofs.Ytebjccenlfhilaa
