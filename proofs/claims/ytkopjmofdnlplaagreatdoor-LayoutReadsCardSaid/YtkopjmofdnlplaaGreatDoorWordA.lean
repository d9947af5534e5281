/-
  PROVED HERE: contracts of word.right, place, Get and of the document's wordRight, WordGet, over every input within the statement's bounds, and that the law WordGets returns true. Conditions: as each theorem states.
-/
import Derived.Test.YtkopjmofdnlplaaGreatDoorRows
import Derived.Test.YtkopjmofdnlplaaGreatDoorErrB
import Derived.Test.YtkopjmofdnlplaaGreatDoorRef
namespace Go.Proofs.YtkopjmofdnlplaaGreatDoor.Word
open Go.RowKit

def ok (w o : Int) : Prop := (w = 1 ∨ w = 2 ∨ w = 4 ∨ w = 8) ∧ (o = 0 ∨ o = 1)
instance (w o : Int) : Decidable (ok w o) := inferInstanceAs (Decidable ((w = 1 ∨ w = 2 ∨ w = 4 ∨ w = 8) ∧ (o = 0 ∨ o = 1)))

theorem right_yes (w o : Int) (h : ok w o) (W : World) : Calls Tryz.prog 121 #[.int .i64 w, .int .i64 o] W fun e w' => e = .returned (.bool true) ∧ W = w' := by
  obtain ⟨rfl | rfl | rfl | rfl, rfl | rfl⟩ := h
  all_goals
    go_enter Tryz.func121, Tryz.ntmps121
    go_wp2
    go_ret
    exact ⟨rfl, rfl⟩
theorem right_no (w o : Int) (h : ¬ ok w o) (W : World) : Calls Tryz.prog 121 #[.int .i64 w, .int .i64 o] W fun e w' => e = .returned (.bool false) ∧ W = w' := by
  by_cases hw : w = 1 ∨ w = 2 ∨ w = 4 ∨ w = 8
  · have ho0 : (o == 0) = false := by rw [beq_eq_false_iff_ne]; intro e; exact h ⟨hw, .inl e⟩
    have ho1 : (o == 1) = false := by rw [beq_eq_false_iff_ne]; intro e; exact h ⟨hw, .inr e⟩
    clear h
    obtain rfl | rfl | rfl | rfl := hw
    all_goals
      go_enter Tryz.func121, Tryz.ntmps121
      go_wp2
      go_ret
      exact ⟨rfl, rfl⟩
  · have h1 : (w == 1) = false := by rw [beq_eq_false_iff_ne]; omega
    have h2 : (w == 2) = false := by rw [beq_eq_false_iff_ne]; omega
    have h3 : (w == 4) = false := by rw [beq_eq_false_iff_ne]; omega
    have h4 : (w == 8) = false := by rw [beq_eq_false_iff_ne]; omega
    clear h hw
    go_enter Tryz.func121, Tryz.ntmps121
    go_wp2
    go_ret
    exact ⟨rfl, rfl⟩
theorem docRight_yes (w o : Int) (h : ok w o) (W : World) : Calls Tryz.prog 116 #[.int .i64 w, .int .i64 o] W fun e w' => e = .returned (.bool true) ∧ W = w' := by
  obtain ⟨rfl | rfl | rfl | rfl, rfl | rfl⟩ := h
  all_goals
    go_enter Tryz.func116, Tryz.ntmps116
    go_wp2_with (go_at_call 101; refine (Ref.within_yes _ _ _ (by omega) (by omega) _).mono ?_; rintro e w' ⟨rfl, rfl⟩)
    go_ret
    exact ⟨rfl, rfl⟩
theorem docRight_no (w o : Int) (h : ¬ ok w o) (W : World) : Calls Tryz.prog 116 #[.int .i64 w, .int .i64 o] W fun e w' => e = .returned (.bool false) ∧ W = w' := by
  by_cases hw : w = 1 ∨ w = 2 ∨ w = 4 ∨ w = 8
  · have ho : o < 0 ∨ 1 < o := by
      have : ¬ (o = 0 ∨ o = 1) := fun e => h ⟨hw, e⟩
      omega
    clear h
    obtain rfl | rfl | rfl | rfl := hw
    all_goals
      go_enter Tryz.func116, Tryz.ntmps116
      go_wp2_with (go_at_call 101; refine (Ref.within_no _ _ _ (by assumption) _).mono ?_; rintro e w' ⟨rfl, rfl⟩)
      go_ret
      exact ⟨rfl, rfl⟩
  · have h1 : (w == 1) = false := by rw [beq_eq_false_iff_ne]; omega
    have h2 : (w == 2) = false := by rw [beq_eq_false_iff_ne]; omega
    have h3 : (w == 4) = false := by rw [beq_eq_false_iff_ne]; omega
    have h4 : (w == 8) = false := by rw [beq_eq_false_iff_ne]; omega
    clear h hw
    go_enter Tryz.func116, Tryz.ntmps116
    go_wp2_with fail
    go_ret
    exact ⟨rfl, rfl⟩

/-- Which byte the k-th one is, from the least on. -/
def plc (w o k : Nat) : Nat := if o = 1 then w - 1 - k else k
theorem place_any (k w o : Nat) (ho : o ≤ 1) (hk : k < w) (hw : w ≤ 8) (W : World) : Calls Tryz.prog 122 #[.int .i64 k, .int .i64 w, .int .i64 o] W fun e w' => e = .returned (.int .i64 (plc w o k : Nat)) ∧ W = w' := by
  rcases (show o = 0 ∨ o = 1 by omega) with rfl | rfl
  all_goals
    go_enter Tryz.func122, Tryz.ntmps122
    go_wp2
    go_ret
    exact ⟨ret_int (by simp [plc]; try omega), rfl⟩

/-! ### the number that bytes are -/
def leV (f : Nat → Nat) : Nat → Nat
  | 0 => 0
  | k + 1 => leV f k + f k * 256 ^ k
def beV (g : Nat → Nat) : Nat → Nat
  | 0 => 0
  | k + 1 => beV g k * 256 + g k
theorem leV_lt (f : Nat → Nat) (hf : ∀ k, f k < 256) : ∀ k, leV f k < 256 ^ k
  | 0 => by simp [leV]
  | k + 1 => by
    have h1 := leV_lt f hf k
    have h2 : f k * 256 ^ k ≤ 255 * 256 ^ k := Nat.mul_le_mul_right _ (by have := hf k; omega)
    rw [leV, Nat.pow_succ]; omega
theorem leV_congr (f g : Nat → Nat) : ∀ k, (∀ j, j < k → f j = g j) → leV f k = leV g k
  | 0, _ => rfl
  | k + 1, h => by rw [leV, leV, leV_congr f g k (fun j hj => h j (by omega)), h k (by omega)]
theorem leV_shift (f : Nat → Nat) : ∀ k, leV f (k + 1) = f 0 + 256 * leV (fun j => f (j + 1)) k
  | 0 => by simp [leV]
  | k + 1 => by
    rw [leV, leV_shift f k, leV, Nat.mul_add, Nat.pow_succ]
    have : f (k + 1) * (256 ^ k * 256) = 256 * (f (k + 1) * 256 ^ k) := by rw [← Nat.mul_assoc, Nat.mul_comm]
    omega
theorem beV_le (g : Nat → Nat) : ∀ k, beV g k = leV (fun j => g (k - 1 - j)) k
  | 0 => rfl
  | k + 1 => by
    rw [leV_shift, beV, beV_le g k, leV_congr (fun j => g (k + 1 - 1 - (j + 1))) (fun j => g (k - 1 - j)) k (fun j hj => by congr 1; omega)]
    simp only [Nat.add_sub_cancel, Nat.sub_zero]
    omega
theorem beV_lt (g : Nat → Nat) (hg : ∀ k, g k < 256) (k : Nat) : beV g k < 256 ^ k := by rw [beV_le]; exact leV_lt _ (fun j => hg _) k
theorem pow256 (k : Nat) (h : k ≤ 8) : 256 ^ k ≤ 18446744073709551616 := by
  have := Nat.pow_le_pow_right (n := 256) (by omega) h
  exact this
theorem leV_or (f : Nat → Nat) (hf : ∀ k, f k < 256) (k : Nat) (hk : k < 8) : bits .or .u64 (leV f k : Int) (IntKind.u64.wrap ((f k : Int) * 2 ^ (8 * k))) = ((leV f (k + 1) : Nat) : Int) := by
  have h1 := leV_lt f hf k
  have h2 := leV_lt f hf (k + 1)
  have h3 := pow256 (k + 1) (by omega)
  have h4 := pow256 k (by omega)
  have e : ((f k : Int) * 2 ^ (8 * k)) = ((f k * 256 ^ k : Nat) : Int) := by
    rw [Int.pow_mul]; simp
  have hl : f k * 256 ^ k < 18446744073709551616 := by rw [leV] at h2; omega
  rw [e, IntKind.wrap_u64, show (((f k * 256 ^ k : Nat) : Int) % 18446744073709551616) = ((f k * 256 ^ k : Nat) : Int) from by omega]
  rw [u64_or_nat _ _ (by omega) hl, Nat.or_comm, nat_join (8 * k) _ _ (by rw [Nat.pow_mul]; exact Nat.mul_mod_left _ _) (by rw [Nat.pow_mul]; exact h1), leV]
  simp; omega

def src (s : ByteArray) (at_ w o k : Nat) : Nat := byteAt s (at_ + plc w o k)
theorem src_lt (s : ByteArray) (at_ w o k : Nat) : src s at_ w o k < 256 := byteAt_lt _ _

set_option maxHeartbeats 400000 in
theorem get_yes (s : ByteArray) (at_ w o : Nat) (ho : o ≤ 1) (hok : ok w o) (hw : w ≤ 8) (hw1 : 1 ≤ w) (h : at_ + w ≤ s.size) (hs : s.size ≤ 1000) (W : World) :
    Calls Tryz.prog 80 #[.string s, .int .i64 at_, .int .i64 w, .int .i64 o] W fun e w' => e = .returned (.tuple #[.int .u64 (leV (src s at_ w o) w : Nat), .nilIface]) ∧ W = w' := by
  have hokH := Lib.hid hok
  clear hok
  go_enter Tryz.func80, Tryz.ntmps80
  go_wp2_with (go_at_call 121; refine (right_yes _ _ hokH.out _).mono ?_; rintro e w' ⟨rfl, rfl⟩)
  go_loop [10, 29] (fun n i => ∃ k : Nat, k ≤ w ∧ i = .int .i64 k ∧ n = .int .u64 (leV (src s at_ w o) k : Nat)) (fun _ i => w - (intOf i).toNat)
  case atStart => exact ⟨0, Nat.zero_le _, rfl, rfl⟩
  case round =>
    obtain ⟨k, hk, rfl, rfl⟩ := hrel
    by_cases hlt : k < w
    · have hp : plc w o k < w := by unfold plc; split <;> omega
      have HO := Lib.hid (leV_or (src s at_ w o) (src_lt s at_ w o) k (by omega))
      have hsrc : src s at_ w o k = byteAt s (at_ + plc w o k) := rfl
      have C := Lib.hid (fun W => place_any k w o ho hlt hw W)
      generalize plc w o k = p at *
      have hb := byteAt_eq s (at_ + p) (by omega)
      have hb2 := src_lt s at_ w o k
      rw [← hsrc] at hb
      clear hsrc
      generalize src s at_ w o k = c at *
      go_wp2_with (go_at_call 122; refine (C.out _).mono ?_; rintro e w' ⟨rfl, rfl⟩)
      go_round
      case rel => exact ⟨k + 1, by omega, by go_num, by rw [HO.out]⟩
      case measure => simp [intOf]; omega
    · obtain rfl : k = w := by omega
      go_wp2
      go_ret2
      exact ⟨rfl, rfl⟩
theorem get_arg (s : ByteArray) (at_ w o : Int) (hok : ¬ ok w o) (W : World) :
    Calls Tryz.prog 80 #[.string s, .int .i64 at_, .int .i64 w, .int .i64 o] W fun e w' => e = .returned (.tuple #[.int .u64 0, .iface 28 (.int .i64 1)]) ∧ W = w' := by
  have hokH := Lib.hid hok
  clear hok
  go_enter Tryz.func80, Tryz.ntmps80
  go_wp2_with (go_at_call 121; refine (right_no _ _ hokH.out _).mono ?_; rintro e w' ⟨rfl, rfl⟩)
  go_ret2
  exact ⟨rfl, rfl⟩
theorem get_range (s : ByteArray) (at_ w o : Int) (hok : ok w o) (hw : 0 ≤ w) (hw8 : w ≤ 8) (h : at_ < 0 ∨ s.size < at_ + w) (hs : s.size ≤ 1000) (W : World) :
    Calls Tryz.prog 80 #[.string s, .int .i64 at_, .int .i64 w, .int .i64 o] W fun e w' => e = .returned (.tuple #[.int .u64 0, .iface 28 (.int .i64 2)]) ∧ W = w' := by
  have hokH := Lib.hid hok
  clear hok
  by_cases h0 : at_ < 0
  · clear h
    go_enter Tryz.func80, Tryz.ntmps80
    go_wp2_with (go_at_call 121; refine (right_yes _ _ hokH.out _).mono ?_; rintro e w' ⟨rfl, rfl⟩)
    go_ret2
    exact ⟨rfl, rfl⟩
  · have h1 : (s.size : Int) - w < at_ := by omega
    clear h
    go_enter Tryz.func80, Tryz.ntmps80
    go_wp2_with (go_at_call 121; refine (right_yes _ _ hokH.out _).mono ?_; rintro e w' ⟨rfl, rfl⟩)
    go_ret2
    exact ⟨rfl, rfl⟩

/-! ### the document's -/
theorem docGet_arg (s : ByteArray) (at_ w o : Int) (hok : ¬ ok w o) (W : World) :
    Calls Tryz.prog 73 #[.string s, .int .i64 at_, .int .i64 w, .int .i64 o] W fun e w' => e = .returned (.tuple #[.int .u64 0, .int .i64 1]) ∧ W = w' := by
  have hokH := Lib.hid hok
  clear hok
  go_enter Tryz.func73, Tryz.ntmps73
  go_wp2_with (go_at_call 116; refine (docRight_no _ _ hokH.out _).mono ?_; rintro e w' ⟨rfl, rfl⟩)
  go_ret2
  exact ⟨rfl, rfl⟩
theorem docGet_range (s : ByteArray) (at_ w o : Int) (hok : ok w o) (hw : 0 ≤ w) (hw8 : w ≤ 8) (h : at_ < 0 ∨ s.size < at_ + w) (_ : s.size ≤ 1000) (W : World) :
    Calls Tryz.prog 73 #[.string s, .int .i64 at_, .int .i64 w, .int .i64 o] W fun e w' => e = .returned (.tuple #[.int .u64 0, .int .i64 2]) ∧ W = w' := by
  have hokH := Lib.hid hok
  clear hok
  by_cases h0 : at_ < 0
  · clear h
    go_enter Tryz.func73, Tryz.ntmps73
    go_wp2_with (go_at_call 116; refine (docRight_yes _ _ hokH.out _).mono ?_; rintro e w' ⟨rfl, rfl⟩)
    go_ret2
    exact ⟨rfl, rfl⟩
  by_cases h1 : (s.size : Int) < at_
  · clear h
    go_enter Tryz.func73, Tryz.ntmps73
    go_wp2_with (go_at_call 116; refine (docRight_yes _ _ hokH.out _).mono ?_; rintro e w' ⟨rfl, rfl⟩)
    go_ret2
    exact ⟨rfl, rfl⟩
  · have h2 : (s.size : Int) - at_ < w := by omega
    clear h
    go_enter Tryz.func73, Tryz.ntmps73
    go_wp2_with (go_at_call 116; refine (docRight_yes _ _ hokH.out _).mono ?_; rintro e w' ⟨rfl, rfl⟩)
    go_ret2
    exact ⟨rfl, rfl⟩
theorem extract_size (s : ByteArray) (a b : Nat) (h1 : a ≤ b) (h2 : b ≤ s.size) : (s.extract a b).size = b - a := by
  rw [ByteArray.size_extract]; omega
theorem beV_succ (g : Nat → Nat) (k : Nat) : ((beV g (k + 1) : Nat) : Int) = (beV g k : Nat) * 256 + (g k : Nat) := by rw [beV]; simp

set_option maxHeartbeats 400000 in
theorem docGet_yes (s : ByteArray) (at_ w o : Nat) (ho : o ≤ 1) (hok : ok w o) (hw : w ≤ 8) (hw1 : 1 ≤ w) (h : at_ + w ≤ s.size) (hs : s.size ≤ 1000) (W : World) :
    Calls Tryz.prog 73 #[.string s, .int .i64 at_, .int .i64 w, .int .i64 o] W fun e w' => e = .returned (.tuple #[.int .u64 (leV (src s at_ w o) w : Nat), .int .i64 0]) ∧ W = w' := by
  have hokH := Lib.hid hok
  clear hok
  have key : ∀ b : ByteArray, b.size = w → (∀ j, j < w → byteAt b (w - 1 - j) = src s at_ w o j) → leV (src s at_ w o) w = beV (byteAt b) w := fun b hb hj => by
    rw [beV_le]; exact leV_congr _ _ _ (fun j h => (hj j h).symm)
  have hez := extract_size s at_ (at_ + w) (by omega) h
  have e1 : at_ + w - at_ = w := by omega
  rw [e1] at hez
  have loop : ∀ b : ByteArray, b.size = w → leV (src s at_ w o) w = beV (byteAt b) w → True := fun _ _ _ => trivial
  have hE : Hid (∀ i, i < w → byteAt (s.extract at_ (at_ + w)) i = byteAt s (at_ + i)) := Lib.hid fun i hi => byteAt_extract s at_ (at_ + w) i (by omega) h
  have key' := Lib.hid key
  have hezH := Lib.hid hez
  clear key loop hez
  rcases (show o = 0 ∨ o = 1 by omega) with rfl | rfl
  · have hv := key'.out (Ref.rev (s.extract at_ (at_ + w))) (by rw [Ref.rev_size]; exact hezH.out) (fun j hj => by
      rw [Ref.rev_at _ _ (by rw [hezH.out]; omega), hezH.out, hE.out _ (by omega)]
      show _ = byteAt s (at_ + plc w 0 j)
      congr 2
      simp [plc]; omega)
    have hbz : (Ref.rev (s.extract at_ (at_ + w))).size = w := by rw [Ref.rev_size]; exact hezH.out
    have hbzH := Lib.hid hbz
    have hz1 : (s.extract at_ (at_ + w)).size ≤ 1000 := by rw [hezH.out]; omega
    have C := Lib.hid (fun W => Ref.turn_any (s.extract at_ (at_ + w)) (by omega) W)
    rw [hv]
    clear hv hbz key' e1
    go_enter Tryz.func73, Tryz.ntmps73
    go_wp2_with fail
    refine (docRight_yes _ _ hokH.out _).mono ?_; rintro e w' ⟨rfl, rfl⟩
    go_wp2_with fail
    refine (C.out _).mono ?_; rintro e w' ⟨rfl, rfl⟩
    generalize hbe : Ref.rev (s.extract at_ (at_ + w)) = b at *
    have hbeH := Lib.hid hbe
    clear hbe
    have hb1000 : b.size ≤ 1000 := by rw [hbzH.out]; omega
    go_wp2_with fail
    go_loop [11, 12] (fun n i => ∃ k : Nat, k ≤ b.size ∧ i = .int .i64 k ∧ n = .int .u64 (beV (byteAt b) k : Nat)) (fun _ i => b.size - (intOf i).toNat)
    case atStart => exact ⟨0, Nat.zero_le _, rfl, rfl⟩
    case round =>
      obtain ⟨k, hk, rfl, rfl⟩ := hrel
      by_cases hlt : k < b.size
      · have hb := byteAt_eq b k hlt
        have hb2 := byteAt_lt b k
        have HB := Lib.hid (beV_succ (byteAt b) k)
        have hv1 : beV (byteAt b) k * 256 ≤ 18446744073709551360 := by
          have h1 := beV_lt (byteAt b) (byteAt_lt b) (k + 1)
          have h2 := pow256 (k + 1) (by have := hbzH.out; omega)
          rw [beV] at h1
          have h3 := beV_lt (byteAt b) (byteAt_lt b) k
          have h4 := Nat.pow_le_pow_right (n := 256) (by omega) (show k ≤ 7 by have := hbzH.out; omega)
          have h5 : (256 : Nat) ^ 7 = 72057594037927936 := by decide
          omega
        generalize byteAt b k = c at *
        go_wp2_with fail
        go_round
        case rel => exact ⟨k + 1, by omega, by go_num, by rw [HB.out]⟩
        case measure => simp [intOf]; omega
      · obtain rfl : k = b.size := by omega
        go_wp2_with fail
        go_ret2
        exact ⟨by have h1 := hbzH.out; have h2 := hbeH.out; simp [h1, h2], rfl⟩
  · have hv := key'.out (s.extract at_ (at_ + w)) hezH.out (fun j hj => by
      rw [hE.out _ (by omega)]
      show _ = byteAt s (at_ + plc w 1 j)
      simp [plc])
    have hbzH := hezH
    rw [hv]
    clear hv key' e1
    go_enter Tryz.func73, Tryz.ntmps73
    go_wp2_with fail
    refine (docRight_yes _ _ hokH.out _).mono ?_; rintro e w' ⟨rfl, rfl⟩
    go_wp2_with fail
    generalize hbe : s.extract at_ (at_ + w) = b at *
    have hbeH := Lib.hid hbe
    clear hbe
    have hb1000 : b.size ≤ 1000 := by rw [hbzH.out]; omega
    go_wp2_with fail
    go_loop [11, 12] (fun n i => ∃ k : Nat, k ≤ b.size ∧ i = .int .i64 k ∧ n = .int .u64 (beV (byteAt b) k : Nat)) (fun _ i => b.size - (intOf i).toNat)
    case atStart => exact ⟨0, Nat.zero_le _, rfl, rfl⟩
    case round =>
      obtain ⟨k, hk, rfl, rfl⟩ := hrel
      by_cases hlt : k < b.size
      · have hb := byteAt_eq b k hlt
        have hb2 := byteAt_lt b k
        have HB := Lib.hid (beV_succ (byteAt b) k)
        have hv1 : beV (byteAt b) k * 256 ≤ 18446744073709551360 := by
          have h1 := beV_lt (byteAt b) (byteAt_lt b) (k + 1)
          have h2 := pow256 (k + 1) (by have := hbzH.out; omega)
          rw [beV] at h1
          have h3 := beV_lt (byteAt b) (byteAt_lt b) k
          have h4 := Nat.pow_le_pow_right (n := 256) (by omega) (show k ≤ 7 by have := hbzH.out; omega)
          have h5 : (256 : Nat) ^ 7 = 72057594037927936 := by decide
          omega
        generalize byteAt b k = c at *
        go_wp2_with fail
        go_round
        case rel => exact ⟨k + 1, by omega, by go_num, by rw [HB.out]⟩
        case measure => simp [intOf]; omega
      · obtain rfl : k = b.size := by omega
        go_wp2_with fail
        go_ret2
        exact ⟨by have h1 := hbzH.out; have h2 := hbeH.out; simp [h1, h2], rfl⟩

end Go.Proofs.YtkopjmofdnlplaaGreatDoor.Word
