/-
  PROVED HERE: contracts of bits.fits, bit, Get and of the document's bitAt, bitsThere, BitsGet, over every input within the statement's bounds, and that the law BitsGets returns true. Conditions: as each theorem states.
-/
import Derived.Test.YtebjccenlfhilaaDoorRows
import Derived.Test.YtebjccenlfhilaaDoorErrB
import Derived.Test.YtebjccenlfhilaaDoorRef
namespace Go.Proofs.YtebjccenlfhilaaDoor.Bit
open Go.RowKit

def lie (z a n : Int) : Prop := 0 ≤ a ∧ 0 ≤ n ∧ n ≤ 64 ∧ a ≤ 8 * z - n
instance (z a n : Int) : Decidable (lie z a n) := inferInstanceAs (Decidable (0 ≤ a ∧ 0 ≤ n ∧ n ≤ 64 ∧ a ≤ 8 * z - n))

theorem fits_yes (s : ByteArray) (a n : Int) (h : lie s.size a n) (hs : s.size ≤ 1000) (W : World) : Calls Tryd.prog 43 #[.string s, .int .i64 a, .int .i64 n] W fun e w' => e = .returned (.bool true) ∧ W = w' := by
  obtain ⟨h1, h2, h3, h4⟩ := h
  go_enter Tryd.func43, Tryd.ntmps43
  go_wp2
  go_ret
  exact ⟨rfl, rfl⟩
theorem fits_no (s : ByteArray) (a n : Int) (h : ¬ lie s.size a n) (hs : s.size ≤ 1000) (W : World) : Calls Tryd.prog 43 #[.string s, .int .i64 a, .int .i64 n] W fun e w' => e = .returned (.bool false) ∧ W = w' := by
  unfold lie at h
  by_cases h1 : a < 0
  · clear h
    go_enter Tryd.func43, Tryd.ntmps43
    go_wp2
    go_ret
    exact ⟨rfl, rfl⟩
  by_cases h2 : n < 0
  · clear h
    go_enter Tryd.func43, Tryd.ntmps43
    go_wp2
    go_ret
    exact ⟨rfl, rfl⟩
  by_cases h3 : 64 < n
  · clear h
    go_enter Tryd.func43, Tryd.ntmps43
    go_wp2
    go_ret
    exact ⟨rfl, rfl⟩
  · have h4 : 8 * s.size - n < a := by omega
    clear h
    go_enter Tryd.func43, Tryd.ntmps43
    go_wp2
    go_ret
    exact ⟨ret_bool (by simp; omega), rfl⟩
theorem there_arg (s : ByteArray) (a n o : Int) (ho : o < 0 ∨ 1 < o) (_ : s.size ≤ 1000) (W : World) : Calls Tryd.prog 41 #[.string s, .int .i64 a, .int .i64 n, .int .i64 o] W fun e w' => e = .returned (.int .i64 1) ∧ W = w' := by
  go_enter Tryd.func41, Tryd.ntmps41
  go_wp2_with (go_at_call 46; refine (Ref.within_no _ _ _ (by assumption) _).mono ?_; rintro e w' ⟨rfl, rfl⟩)
  go_ret
  exact ⟨rfl, rfl⟩
theorem there_yes (s : ByteArray) (a n o : Int) (ho : 0 ≤ o ∧ o ≤ 1) (h : lie s.size a n) (hs : s.size ≤ 1000) (W : World) : Calls Tryd.prog 41 #[.string s, .int .i64 a, .int .i64 n, .int .i64 o] W fun e w' => e = .returned (.int .i64 0) ∧ W = w' := by
  obtain ⟨h1, h2, h3, h4⟩ := h
  go_enter Tryd.func41, Tryd.ntmps41
  go_wp2_with (go_at_call 46; refine (Ref.within_yes _ _ _ (by omega) (by omega) _).mono ?_; rintro e w' ⟨rfl, rfl⟩)
  go_ret
  exact ⟨rfl, rfl⟩
theorem there_no (s : ByteArray) (a n o : Int) (ho : 0 ≤ o ∧ o ≤ 1) (h : ¬ lie s.size a n) (hs : s.size ≤ 1000) (W : World) : Calls Tryd.prog 41 #[.string s, .int .i64 a, .int .i64 n, .int .i64 o] W fun e w' => e = .returned (.int .i64 2) ∧ W = w' := by
  unfold lie at h
  by_cases h1 : a < 0
  · clear h
    go_enter Tryd.func41, Tryd.ntmps41
    go_wp2_with (go_at_call 46; refine (Ref.within_yes _ _ _ (by omega) (by omega) _).mono ?_; rintro e w' ⟨rfl, rfl⟩)
    go_ret
    exact ⟨rfl, rfl⟩
  by_cases h2 : n < 0 ∨ 64 < n
  · clear h
    go_enter Tryd.func41, Tryd.ntmps41
    go_wp2_with fail
    refine (Ref.within_yes _ _ _ (by omega) (by omega) _).mono ?_; rintro e w' ⟨rfl, rfl⟩
    go_wp2_with fail
    refine (Ref.within_no _ _ _ (by assumption) _).mono ?_; rintro e w' ⟨rfl, rfl⟩
    go_wp2_with fail
    go_ret
    exact ⟨rfl, rfl⟩
  by_cases h3 : 8 * (s.size : Int) < a
  · clear h
    go_enter Tryd.func41, Tryd.ntmps41
    go_wp2_with (go_at_call 46; refine (Ref.within_yes _ _ _ (by omega) (by omega) _).mono ?_; rintro e w' ⟨rfl, rfl⟩)
    go_ret
    exact ⟨rfl, rfl⟩
  · have h4 : 8 * s.size - a < n := by omega
    clear h
    go_enter Tryd.func41, Tryd.ntmps41
    go_wp2_with (go_at_call 46; refine (Ref.within_yes _ _ _ (by omega) (by omega) _).mono ?_; rintro e w' ⟨rfl, rfl⟩)
    go_ret
    exact ⟨rfl, rfl⟩

/-! ### one bit -/
def bp (o k : Nat) : Nat := if o = 1 then 7 - k % 8 else k % 8
def bt (s : ByteArray) (o k : Nat) : Nat := byteAt s (k / 8) / 2 ^ bp o k % 2
theorem bt_lt (s : ByteArray) (o k : Nat) : bt s o k < 2 := Nat.mod_lt _ (by omega)
theorem bp_le (o k : Nat) : bp o k ≤ 7 := by unfold bp; split <;> omega
theorem bit_any (k o : Nat) (ho : o ≤ 1) (hk : k ≤ 100000) (W : World) : Calls Tryd.prog 44 #[.int .i64 k, .int .i64 o] W fun e w' => e = .returned (.tuple #[.int .i64 (k / 8 : Nat), .int .u64 (bp o k : Nat)]) ∧ W = w' := by
  rcases (show o = 0 ∨ o = 1 by omega) with rfl | rfl
  all_goals
    go_enter Tryd.func44, Tryd.ntmps44
    go_wp2
    go_ret2
    refine ⟨?_, rfl⟩
    simp [bp]
    try omega

def bitB (c i : Nat) : Nat := c * 2 ^ i % 256
def bitL (c i : Nat) : Nat := c / 2 ^ i
theorem bitB_lt (c i : Nat) : bitB c i < 256 := Nat.mod_lt _ (by omega)
theorem bitL_lt (c i : Nat) (h : c < 256) : bitL c i < 256 := Nat.lt_of_le_of_lt (Nat.div_le_self _ _) h
theorem bitB_succ (c i : Nat) : ((bitB c (i + 1) : Nat) : Int) = (bitB c i : Nat) * 2 % 256 := by
  unfold bitB; rw [Nat.pow_succ, ← Nat.mul_assoc]; omega
theorem bitL_succ (c i : Nat) : ((bitL c (i + 1) : Nat) : Int) = (bitL c i : Nat) / 2 := by
  unfold bitL; rw [Nat.pow_succ, ← Nat.div_div_eq_div_mul]; omega
theorem bitB_all : ∀ (c : Fin 256) (j : Fin 8), bitB c.val j.val / 128 = c.val / 2 ^ (7 - j.val) % 2 := by decide +kernel

set_option maxHeartbeats 400000 in
theorem bitAt_any (s : ByteArray) (k o : Nat) (ho : o ≤ 1) (hk : k < 8 * s.size) (hs : s.size ≤ 1000) (w : World) :
    Calls Tryd.prog 42 #[.string s, .int .i64 k, .int .i64 o] w fun e w' => e = .returned (.int .u64 (bt s o k : Nat)) ∧ w = w' := by
  have hlt : k / 8 < s.size := by omega
  have hb := byteAt_eq s (k / 8) hlt
  have hb2 := byteAt_lt s (k / 8)
  have HV : Hid (bt s 1 k = bitB (byteAt s (k / 8)) (k % 8) / 128) := Lib.hid ((bitB_all ⟨byteAt s (k / 8), hb2⟩ ⟨k % 8, by omega⟩).symm)
  have HL : Hid (bt s 0 k = bitL (byteAt s (k / 8)) (k % 8) % 2) := Lib.hid rfl
  generalize hc : byteAt s (k / 8) = c at *
  clear hc
  rcases (show o = 0 ∨ o = 1 by omega) with rfl | rfl
  · rw [HL.out]
    go_enter Tryd.func42, Tryd.ntmps42
    go_wp2
    go_loop [7, 8] (fun b i => ∃ j : Nat, j ≤ k % 8 ∧ i = .int .i64 j ∧ b = .int .u64 (bitL c j : Nat)) (fun _ i => k % 8 - (intOf i).toNat)
    case atStart => exact ⟨0, Nat.zero_le _, rfl, by simp [bitL]⟩
    case round =>
      obtain ⟨j, hj, rfl, rfl⟩ := hrel
      have hbb := bitL_lt c j hb2
      by_cases hlt : j < k % 8
      · have HB := Lib.hid (bitL_succ c j)
        go_wp2
        go_round
        case rel => exact ⟨j + 1, by omega, by go_num, by rw [HB.out]⟩
        case measure => simp [intOf]; omega
      · obtain rfl : j = k % 8 := by omega
        go_wp2
        go_ret
        exact ⟨ret_int (by simp), rfl⟩
  · rw [HV.out]
    go_enter Tryd.func42, Tryd.ntmps42
    go_wp2
    go_loop [7, 8] (fun b i => ∃ j : Nat, j ≤ k % 8 ∧ i = .int .i64 j ∧ b = .int .u64 (bitB c j : Nat)) (fun _ i => k % 8 - (intOf i).toNat)
    case atStart => exact ⟨0, Nat.zero_le _, rfl, by simp [bitB]; omega⟩
    case round =>
      obtain ⟨j, hj, rfl, rfl⟩ := hrel
      have hbb := bitB_lt c j
      by_cases hlt : j < k % 8
      · have HB := Lib.hid (bitB_succ c j)
        go_wp2
        go_round
        case rel => exact ⟨j + 1, by omega, by go_num, by rw [HB.out]⟩
        case measure => simp [intOf]; omega
      · obtain rfl : j = k % 8 := by omega
        go_wp2
        go_ret
        exact ⟨ret_int (by simp), rfl⟩

/-! ### the number that bits are -/
def leV (f : Nat → Nat) : Nat → Nat
  | 0 => 0
  | k + 1 => leV f k + f k * 2 ^ k
def beV (g : Nat → Nat) : Nat → Nat
  | 0 => 0
  | k + 1 => beV g k * 2 + g k
theorem leV_lt (f : Nat → Nat) (hf : ∀ k, f k < 2) : ∀ k, leV f k < 2 ^ k
  | 0 => by simp [leV]
  | k + 1 => by
    have h1 := leV_lt f hf k
    have h2 : f k * 2 ^ k ≤ 1 * 2 ^ k := Nat.mul_le_mul_right _ (by have := hf k; omega)
    rw [leV, Nat.pow_succ]; omega
theorem leV_congr (f g : Nat → Nat) : ∀ k, (∀ j, j < k → f j = g j) → leV f k = leV g k
  | 0, _ => rfl
  | k + 1, h => by rw [leV, leV, leV_congr f g k (fun j hj => h j (by omega)), h k (by omega)]
theorem leV_shift (f : Nat → Nat) : ∀ k, leV f (k + 1) = f 0 + 2 * leV (fun j => f (j + 1)) k
  | 0 => by simp [leV]
  | k + 1 => by
    rw [leV, leV_shift f k, leV, Nat.mul_add, Nat.pow_succ]
    have : f (k + 1) * (2 ^ k * 2) = 2 * (f (k + 1) * 2 ^ k) := by rw [← Nat.mul_assoc, Nat.mul_comm]
    omega
theorem beV_le (g : Nat → Nat) : ∀ k, beV g k = leV (fun j => g (k - 1 - j)) k
  | 0 => rfl
  | k + 1 => by
    rw [leV_shift, beV, beV_le g k, leV_congr (fun j => g (k + 1 - 1 - (j + 1))) (fun j => g (k - 1 - j)) k (fun j hj => by congr 1; omega)]
    simp only [Nat.add_sub_cancel, Nat.sub_zero]
    omega
theorem beV_lt (g : Nat → Nat) (hg : ∀ k, g k < 2) (k : Nat) : beV g k < 2 ^ k := by rw [beV_le]; exact leV_lt _ (fun j => hg _) k
theorem pow64 (k : Nat) (h : k ≤ 64) : 2 ^ k ≤ 18446744073709551616 := by
  have := Nat.pow_le_pow_right (n := 2) (by omega) h
  exact this
theorem leV_or (f : Nat → Nat) (hf : ∀ k, f k < 2) (k : Nat) (hk : k < 64) : bits .or .u64 (leV f k : Int) (IntKind.u64.wrap ((f k : Int) * 2 ^ k)) = ((leV f (k + 1) : Nat) : Int) := by
  have h1 := leV_lt f hf k
  have h2 := leV_lt f hf (k + 1)
  have h3 := pow64 (k + 1) (by omega)
  have h4 := pow64 k (by omega)
  have e : ((f k : Int) * 2 ^ k) = ((f k * 2 ^ k : Nat) : Int) := by simp
  have hl : f k * 2 ^ k < 18446744073709551616 := by rw [leV] at h2; omega
  rw [e, IntKind.wrap_u64, show (((f k * 2 ^ k : Nat) : Int) % 18446744073709551616) = ((f k * 2 ^ k : Nat) : Int) from by omega]
  rw [u64_or_nat _ _ (by omega) hl, Nat.or_comm, nat_join k _ _ (Nat.mul_mod_left _ _) h1, leV]
  simp; omega
theorem beV_or (g : Nat → Nat) (hg : ∀ k, g k < 2) (k : Nat) (hk : k < 64) : bits .or .u64 (IntKind.u64.wrap ((beV g k : Int) * 2)) (g k : Int) = ((beV g (k + 1) : Nat) : Int) := by
  have h1 := beV_lt g hg k
  have h2 := beV_lt g hg (k + 1)
  have h3 := pow64 (k + 1) (by omega)
  have h5 := hg k
  have e : ((beV g k : Int) * 2) = ((beV g k * 2 : Nat) : Int) := by simp
  have hl : beV g k * 2 < 18446744073709551616 := by rw [beV] at h2; omega
  rw [e, IntKind.wrap_u64, show (((beV g k * 2 : Nat) : Int) % 18446744073709551616) = ((beV g k * 2 : Nat) : Int) from by omega]
  rw [u64_or_nat _ _ hl (by omega), nat_join 1 _ _ (Nat.mul_mod_left _ _) h5, beV]

/-- The number that n bits from a on are. -/
def V (s : ByteArray) (o a n : Nat) : Nat := if o = 1 then beV (fun k => bt s o (a + k)) n else leV (fun k => bt s o (a + k)) n

set_option maxHeartbeats 400000 in
theorem get_yes (s : ByteArray) (a n o : Nat) (ho : o ≤ 1) (h : lie s.size a n) (hs : s.size ≤ 1000) (W : World) :
    Calls Tryd.prog 19 #[.string s, .int .i64 a, .int .i64 n, .int .i64 o] W fun e w' => e = .returned (.tuple #[.int .u64 (V s o a n : Nat), .nilIface]) ∧ W = w' := by
  have C := Lib.hid (fun W => fits_yes s a n h hs W)
  have h1 : n ≤ 64 ∧ a + n ≤ 8 * s.size := by unfold lie at h; omega
  clear h
  have HF : Hid (∀ k, bt s o k < 2) := Lib.hid (bt_lt s o)
  have sh : ∀ c b : Nat, c < 256 → bits .and .u64 (IntKind.u64.wrap ((c : Int) / 2 ^ b)) 1 = ((c / 2 ^ b % 2 : Nat) : Int) := fun c b hc => by
    have e : ((c : Int) / 2 ^ b) = ((c / 2 ^ b : Nat) : Int) := by simp
    have h2 : c / 2 ^ b < 256 := Nat.lt_of_le_of_lt (Nat.div_le_self _ _) hc
    have := u64_and_nat (c / 2 ^ b) 1 (by omega) (by omega)
    rw [Nat.and_one_is_mod] at this
    rw [← this, e, IntKind.wrap_u64, show (((c / 2 ^ b : Nat) : Int) % 18446744073709551616) = ((c / 2 ^ b : Nat) : Int) from by generalize c / 2 ^ b = d at h2 ⊢; omega]
    rfl
  have SH := Lib.hid sh
  clear sh
  rcases (show o = 0 ∨ o = 1 by omega) with rfl | rfl
  · go_enter Tryd.func19, Tryd.ntmps19
    go_wp2_with (go_at_call 43; refine (C.out _).mono ?_; rintro e w' ⟨rfl, rfl⟩)
    go_loop [10, 31] (fun v i => ∃ k : Nat, k ≤ n ∧ i = .int .i64 k ∧ v = .int .u64 (leV (fun k => bt s 0 (a + k)) k : Nat)) (fun _ i => n - (intOf i).toNat)
    case atStart => exact ⟨0, Nat.zero_le _, rfl, rfl⟩
    case round =>
      obtain ⟨k, hk, rfl, rfl⟩ := hrel
      by_cases hlt : k < n
      · have HO := Lib.hid (leV_or (fun k => bt s 0 (a + k)) (fun k => HF.out _) k (by omega))
        have CB := Lib.hid (fun W => bit_any (a + k) 0 (by omega) (by omega) W)
        have hb := byteAt_eq s ((a + k) / 8) (by omega)
        have hb2 := byteAt_lt s ((a + k) / 8)
        have hp := bp_le 0 (a + k)
        have HS := Lib.hid (SH.out (byteAt s ((a + k) / 8)) (bp 0 (a + k)) hb2)
        have hbt : bt s 0 (a + k) = byteAt s ((a + k) / 8) / 2 ^ bp 0 (a + k) % 2 := rfl
        rw [← hbt] at HS
        have hv2 := HF.out (a + k)
        clear hbt
        generalize byteAt s ((a + k) / 8) = c at *
        generalize bt s 0 (a + k) = v at *
        generalize bp 0 (a + k) = p at *
        go_wp2_with fail
        refine (CB.out _).mono ?_; rintro e w' ⟨rfl, rfl⟩
        go_wp2_with fail
        go_round
        case rel => exact ⟨k + 1, by omega, by go_num, by rw [HS.out, HO.out]⟩
        case measure => simp [intOf]; omega
      · obtain rfl : k = n := by omega
        go_wp2
        go_ret2
        exact ⟨rfl, rfl⟩
  · go_enter Tryd.func19, Tryd.ntmps19
    go_wp2_with (go_at_call 43; refine (C.out _).mono ?_; rintro e w' ⟨rfl, rfl⟩)
    go_loop [10, 31] (fun v i => ∃ k : Nat, k ≤ n ∧ i = .int .i64 k ∧ v = .int .u64 (beV (fun k => bt s 1 (a + k)) k : Nat)) (fun _ i => n - (intOf i).toNat)
    case atStart => exact ⟨0, Nat.zero_le _, rfl, rfl⟩
    case round =>
      obtain ⟨k, hk, rfl, rfl⟩ := hrel
      by_cases hlt : k < n
      · have HO := Lib.hid (beV_or (fun k => bt s 1 (a + k)) (fun k => HF.out _) k (by omega))
        have CB := Lib.hid (fun W => bit_any (a + k) 1 (by omega) (by omega) W)
        have hb := byteAt_eq s ((a + k) / 8) (by omega)
        have hb2 := byteAt_lt s ((a + k) / 8)
        have hp := bp_le 1 (a + k)
        have HS := Lib.hid (SH.out (byteAt s ((a + k) / 8)) (bp 1 (a + k)) hb2)
        have hbt : bt s 1 (a + k) = byteAt s ((a + k) / 8) / 2 ^ bp 1 (a + k) % 2 := rfl
        rw [← hbt] at HS
        have hv2 := HF.out (a + k)
        clear hbt
        generalize byteAt s ((a + k) / 8) = c at *
        generalize bt s 1 (a + k) = v at *
        generalize bp 1 (a + k) = p at *
        go_wp2_with fail
        refine (CB.out _).mono ?_; rintro e w' ⟨rfl, rfl⟩
        go_wp2_with fail
        go_round
        case rel => exact ⟨k + 1, by omega, by go_num, by rw [HS.out, HO.out]⟩
        case measure => simp [intOf]; omega
      · obtain rfl : k = n := by omega
        go_wp2
        go_ret2
        exact ⟨rfl, rfl⟩
theorem get_arg (s : ByteArray) (a n o : Int) (h : ¬ (o = 0 ∨ o = 1)) (_ : s.size ≤ 1000) (W : World) :
    Calls Tryd.prog 19 #[.string s, .int .i64 a, .int .i64 n, .int .i64 o] W fun e w' => e = .returned (.tuple #[.int .u64 0, .iface 28 (.int .i64 1)]) ∧ W = w' := by
  have e1 : (o != 0) = true := bne_iff_ne.mpr fun e => h (.inl e)
  have e2 : (o != 1) = true := bne_iff_ne.mpr fun e => h (.inr e)
  clear h
  go_enter Tryd.func19, Tryd.ntmps19
  go_wp2_with fail
  go_ret2
  exact ⟨rfl, rfl⟩
theorem get_range (s : ByteArray) (a n o : Int) (ho : o = 0 ∨ o = 1) (h : ¬ lie s.size a n) (hs : s.size ≤ 1000) (W : World) :
    Calls Tryd.prog 19 #[.string s, .int .i64 a, .int .i64 n, .int .i64 o] W fun e w' => e = .returned (.tuple #[.int .u64 0, .iface 28 (.int .i64 2)]) ∧ W = w' := by
  have C := Lib.hid (fun W => fits_no s a n h hs W)
  clear h
  rcases ho with rfl | rfl
  all_goals
    go_enter Tryd.func19, Tryd.ntmps19
    go_wp2_with (go_at_call 43; refine (C.out _).mono ?_; rintro e w' ⟨rfl, rfl⟩)
    go_ret2
    exact ⟨rfl, rfl⟩

/-! ### the document's -/
theorem docGet_no (s : ByteArray) (a n o x : Int) (hx : x = 1 ∨ x = 2) (c : ∀ W, Calls Tryd.prog 41 #[.string s, .int .i64 a, .int .i64 n, .int .i64 o] W fun e w' => e = .returned (.int .i64 x) ∧ W = w') (W : World) :
    Calls Tryd.prog 18 #[.string s, .int .i64 a, .int .i64 n, .int .i64 o] W fun e w' => e = .returned (.tuple #[.int .u64 0, .int .i64 x]) ∧ W = w' := by
  have C := Lib.hid c
  clear c
  rcases hx with rfl | rfl
  all_goals
    go_enter Tryd.func18, Tryd.ntmps18
    go_wp2_with (go_at_call 41; refine (C.out _).mono ?_; rintro e w' ⟨rfl, rfl⟩)
    go_ret2
    exact ⟨rfl, rfl⟩
theorem beV_succ (g : Nat → Nat) (k : Nat) : ((beV g (k + 1) : Nat) : Int) = (beV g k : Nat) * 2 + (g k : Nat) := by rw [beV]; simp
set_option maxHeartbeats 400000 in
theorem docGet_yes (s : ByteArray) (a n o : Nat) (ho : o ≤ 1) (h : lie s.size a n) (hs : s.size ≤ 1000) (W : World) :
    Calls Tryd.prog 18 #[.string s, .int .i64 a, .int .i64 n, .int .i64 o] W fun e w' => e = .returned (.tuple #[.int .u64 (V s o a n : Nat), .int .i64 0]) ∧ W = w' := by
  have C := Lib.hid (fun W => there_yes s a n o (by omega) h hs W)
  have h1 : n ≤ 64 ∧ a + n ≤ 8 * s.size := by unfold lie at h; omega
  clear h
  have HF : Hid (∀ k, bt s o k < 2) := Lib.hid (bt_lt s o)
  have HC : Hid (∀ k, k < 8 * s.size → ∀ W, Calls Tryd.prog 42 #[.string s, .int .i64 (k : Nat), .int .i64 (o : Nat)] W fun e w' => e = .returned (.int .u64 (bt s o k : Nat)) ∧ W = w') := Lib.hid (fun k hk W => bitAt_any s k o ho hk hs W)
  have bnd : ∀ g : Nat → Nat, (∀ k, g k < 2) → ∀ k, k < n → beV g k * 2 + g k < 18446744073709551616 := fun g hg k hk => by
    have h1 := beV_lt g hg (k + 1)
    have h2 := pow64 (k + 1) (by omega)
    rw [beV] at h1
    omega
  have HN := Lib.hid bnd
  clear bnd
  rcases (show o = 0 ∨ o = 1 by omega) with rfl | rfl
  · have hv : V s 0 a n = beV (fun k => bt s 0 (a + n - 1 - k)) n := by
      rw [beV_le]
      show leV _ _ = _
      exact leV_congr _ _ _ (fun j hj => by congr 1; omega)
    have hvH := Lib.hid hv
    clear hv
    go_enter Tryd.func18, Tryd.ntmps18
    go_wp2_with (go_at_call 41; refine (C.out _).mono ?_; rintro e w' ⟨rfl, rfl⟩)
    go_loop [11, 12] (fun v i => ∃ k : Nat, k ≤ n ∧ i = .int .i64 k ∧ v = .int .u64 (beV (fun k => bt s 0 (a + n - 1 - k)) k : Nat)) (fun _ i => n - (intOf i).toNat)
    case atStart => exact ⟨0, Nat.zero_le _, rfl, rfl⟩
    case round =>
      obtain ⟨k, hk, rfl, rfl⟩ := hrel
      by_cases hlt : k < n
      · have HB := Lib.hid (beV_succ (fun k => bt s 0 (a + n - 1 - k)) k)
        have CB := Lib.hid (HC.out (a + n - 1 - k) (by omega))
        have hn := HN.out (fun k => bt s 0 (a + n - 1 - k)) (fun _ => HF.out _) k hlt
        have ek := Lib.hid (show ((a + n - 1 - k : Nat) : Int) = (a : Int) + n - 1 - k by omega)
        rw [ek.out] at CB
        generalize hbv : beV (fun k => bt s 0 (a + n - 1 - k)) k = v at *
        replace hbv := Lib.hid hbv
        generalize hbb : bt s 0 (a + n - 1 - k) = b at *
        replace hbb := Lib.hid hbb
        go_wp2_with fail
        refine (CB.out _).mono ?_; rintro e w' ⟨rfl, rfl⟩
        go_wp2_with fail
        go_round
        case rel => exact ⟨k + 1, by omega, by go_num, by rw [HB.out]⟩
        case measure => simp [intOf]; omega
      · obtain rfl : k = n := by omega
        go_wp2
        go_ret2
        exact ⟨by rw [hvH.out]; rfl, rfl⟩
  · have hvH := Lib.hid (show V s 1 a n = beV (fun k => bt s 1 (a + k)) n from rfl)
    go_enter Tryd.func18, Tryd.ntmps18
    go_wp2_with (go_at_call 41; refine (C.out _).mono ?_; rintro e w' ⟨rfl, rfl⟩)
    go_loop [11, 12] (fun v i => ∃ k : Nat, k ≤ n ∧ i = .int .i64 k ∧ v = .int .u64 (beV (fun k => bt s 1 (a + k)) k : Nat)) (fun _ i => n - (intOf i).toNat)
    case atStart => exact ⟨0, Nat.zero_le _, rfl, rfl⟩
    case round =>
      obtain ⟨k, hk, rfl, rfl⟩ := hrel
      by_cases hlt : k < n
      · have HB := Lib.hid (beV_succ (fun k => bt s 1 (a + k)) k)
        have CB := Lib.hid (HC.out (a + k) (by omega))
        have hn := HN.out (fun k => bt s 1 (a + k)) (fun _ => HF.out _) k hlt
        generalize hbv : beV (fun k => bt s 1 (a + k)) k = v at *
        replace hbv := Lib.hid hbv
        generalize hbb : bt s 1 (a + k) = b at *
        replace hbb := Lib.hid hbb
        go_wp2_with fail
        refine (CB.out _).mono ?_; rintro e w' ⟨rfl, rfl⟩
        go_wp2_with fail
        go_round
        case rel => exact ⟨k + 1, by omega, by go_num, by rw [HB.out]⟩
        case measure => simp [intOf]; omega
      · obtain rfl : k = n := by omega
        go_wp2
        go_ret2
        exact ⟨by rw [hvH.out]; rfl, rfl⟩

set_option maxHeartbeats 400000 in
theorem bitsGets_walk (a0 : ByteArray) (a1 a2 a3 : Int) (W : World) (hg : Err.Home W) :
    Calls Tryd.prog 6 #[.string a0, .int .i64 a1, .int .i64 a2, .int .i64 a3] W fun e w' => e = .returned (.bool true) ∧ Below W.heap.size W w' := by
  by_cases hs : a0.size ≤ 100
  · have main : ∀ (v n : Int) (x : Value), Err.ErrIs W x n (-1) →
        (∀ W', Calls Tryd.prog 18 #[.string a0, .int .i64 a1, .int .i64 a2, .int .i64 a3] W' fun e w' => e = .returned (.tuple #[.int .u64 v, .int .i64 n]) ∧ W' = w') →
        (∀ W', Calls Tryd.prog 19 #[.string a0, .int .i64 a1, .int .i64 a2, .int .i64 a3] W' fun e w' => e = .returned (.tuple #[.int .u64 v, x]) ∧ W' = w') →
        Calls Tryd.prog 6 #[.string a0, .int .i64 a1, .int .i64 a2, .int .i64 a3] W fun e w' => e = .returned (.bool true) ∧ Below W.heap.size W w' := by
      intro v n x hx c1 c2
      have C := Lib.hid (Err.bare_any x n (-1) n W hg hx)
      have C1 := Lib.hid c1
      have C2 := Lib.hid c2
      clear c1 c2 hx hg
      go_enter Tryd.func6, Tryd.ntmps6
      go_wp2_with fail
      refine (C1.out _).mono ?_; rintro e w' ⟨rfl, rfl⟩
      go_wp2_with fail
      refine (C2.out _).mono ?_; rintro e w' ⟨rfl, rfl⟩
      go_wp2_with fail
      refine C.out.mono ?_; rintro e w' ⟨rfl, hb⟩
      have hbH := Lib.hid hb
      clear hb
      go_wp2_with fail
      go_ret
      exact ⟨ret_bool (by simp), hbH.out⟩
    by_cases hok : a3 = 0 ∨ a3 = 1
    · by_cases hr : lie a0.size a1 a2
      · have hr' := hr
        unfold lie at hr'
        obtain ⟨a, rfl⟩ := Int.eq_ofNat_of_zero_le (show 0 ≤ a1 by omega)
        obtain ⟨w, rfl⟩ := Int.eq_ofNat_of_zero_le (show 0 ≤ a2 by omega)
        obtain ⟨o, rfl⟩ := Int.eq_ofNat_of_zero_le (show 0 ≤ a3 by omega)
        exact main _ 0 .nilIface (.inl ⟨rfl, rfl, rfl⟩) (fun W' => docGet_yes a0 a w o (by omega) hr (by omega) W') (fun W' => get_yes a0 a w o (by omega) hr (by omega) W')
      · exact main 0 2 _ (.inr (.inl ⟨rfl, rfl⟩)) (fun W' => docGet_no a0 a1 a2 a3 2 (by omega) (fun W => there_no a0 a1 a2 a3 (by omega) hr (by omega) W) W') (fun W' => get_range a0 a1 a2 a3 hok hr (by omega) W')
    · exact main 0 1 _ (.inr (.inl ⟨rfl, rfl⟩)) (fun W' => docGet_no a0 a1 a2 a3 1 (by omega) (fun W => there_arg a0 a1 a2 a3 (by omega) (by omega) W) W') (fun W' => get_arg a0 a1 a2 a3 hok (by omega) W')
  · go_enter Tryd.func6, Tryd.ntmps6
    go_wp2_with fail
    go_ret
    exact ⟨rfl, Below.refl _ _⟩
end Go.Proofs.YtebjccenlfhilaaDoor.Bit
