/-
  PROVED HERE: contracts of the document's WordGet and WordPut. Conditions: as each theorem states.
-/
import Derived.Test.YtifnochpmlllgaaDoorChr
import Derived.Test.YtifnochpmlllgaaDoorRef
namespace Go.Proofs.YtifnochpmlllgaaDoor.DocW
open Go.RowKit

def ok (w o : Int) : Prop := (w = 1 ∨ w = 2 ∨ w = 4 ∨ w = 8) ∧ (o = 0 ∨ o = 1)
theorem docRight_yes (w o : Int) (h : ok w o) (W : World) : Calls Tryd.prog 105 #[.int .i64 w, .int .i64 o] W fun e w' => e = .returned (.bool true) ∧ W = w' := by
  obtain ⟨rfl | rfl | rfl | rfl, rfl | rfl⟩ := h
  all_goals
    go_enter Tryd.func105, Tryd.ntmps105
    go_wp2_with (go_at_call 66; refine (Ref.within_yes _ _ _ (by omega) (by omega) _).mono ?_; rintro e w' ⟨rfl, rfl⟩)
    go_ret
    exact ⟨rfl, rfl⟩
theorem docRight_no (w o : Int) (h : ¬ ok w o) (W : World) : Calls Tryd.prog 105 #[.int .i64 w, .int .i64 o] W fun e w' => e = .returned (.bool false) ∧ W = w' := by
  by_cases hw : w = 1 ∨ w = 2 ∨ w = 4 ∨ w = 8
  · have ho : o < 0 ∨ 1 < o := by
      have : ¬ (o = 0 ∨ o = 1) := fun e => h ⟨hw, e⟩
      omega
    clear h
    obtain rfl | rfl | rfl | rfl := hw
    all_goals
      go_enter Tryd.func105, Tryd.ntmps105
      go_wp2_with (go_at_call 66; refine (Ref.within_no _ _ _ (by assumption) _).mono ?_; rintro e w' ⟨rfl, rfl⟩)
      go_ret
      exact ⟨rfl, rfl⟩
  · have h1 : (w == 1) = false := by rw [beq_eq_false_iff_ne]; omega
    have h2 : (w == 2) = false := by rw [beq_eq_false_iff_ne]; omega
    have h3 : (w == 4) = false := by rw [beq_eq_false_iff_ne]; omega
    have h4 : (w == 8) = false := by rw [beq_eq_false_iff_ne]; omega
    clear h hw
    go_enter Tryd.func105, Tryd.ntmps105
    go_wp2_with fail
    go_ret
    exact ⟨rfl, rfl⟩

/-- Which byte the k-th one is, from the least on. -/
def plc (w o k : Nat) : Nat := if o = 1 then w - 1 - k else k
/-! ### the number that bytes are -/
def leV (f : Nat → Nat) : Nat → Nat
  | 0 => 0
  | k + 1 => leV f k + f k * 256 ^ k
def beV (g : Nat → Nat) : Nat → Nat
  | 0 => 0
  | k + 1 => beV g k * 256 + g k
theorem leV_lt (f : Nat → Nat) (hf : ∀ k, f k < 256) : ∀ k, leV f k < 256 ^ k
  | 0 => by simp [leV]
  | k + 1 => by
    have h1 := leV_lt f hf k
    have h2 : f k * 256 ^ k ≤ 255 * 256 ^ k := Nat.mul_le_mul_right _ (by have := hf k; omega)
    rw [leV, Nat.pow_succ]; omega
theorem leV_congr (f g : Nat → Nat) : ∀ k, (∀ j, j < k → f j = g j) → leV f k = leV g k
  | 0, _ => rfl
  | k + 1, h => by rw [leV, leV, leV_congr f g k (fun j hj => h j (by omega)), h k (by omega)]
theorem leV_shift (f : Nat → Nat) : ∀ k, leV f (k + 1) = f 0 + 256 * leV (fun j => f (j + 1)) k
  | 0 => by simp [leV]
  | k + 1 => by
    rw [leV, leV_shift f k, leV, Nat.mul_add, Nat.pow_succ]
    have : f (k + 1) * (256 ^ k * 256) = 256 * (f (k + 1) * 256 ^ k) := by rw [← Nat.mul_assoc, Nat.mul_comm]
    omega
theorem beV_le (g : Nat → Nat) : ∀ k, beV g k = leV (fun j => g (k - 1 - j)) k
  | 0 => rfl
  | k + 1 => by
    rw [leV_shift, beV, beV_le g k, leV_congr (fun j => g (k + 1 - 1 - (j + 1))) (fun j => g (k - 1 - j)) k (fun j hj => by congr 1; omega)]
    simp only [Nat.add_sub_cancel, Nat.sub_zero]
    omega
theorem beV_lt (g : Nat → Nat) (hg : ∀ k, g k < 256) (k : Nat) : beV g k < 256 ^ k := by rw [beV_le]; exact leV_lt _ (fun j => hg _) k
theorem pow256 (k : Nat) (h : k ≤ 8) : 256 ^ k ≤ 18446744073709551616 := by
  have := Nat.pow_le_pow_right (n := 256) (by omega) h
  exact this
def src (s : ByteArray) (at_ w o k : Nat) : Nat := byteAt s (at_ + plc w o k)
theorem src_lt (s : ByteArray) (at_ w o k : Nat) : src s at_ w o k < 256 := byteAt_lt _ _

theorem docGet_arg (s : ByteArray) (at_ w o : Int) (hok : ¬ ok w o) (W : World) :
    Calls Tryd.prog 74 #[.string s, .int .i64 at_, .int .i64 w, .int .i64 o] W fun e w' => e = .returned (.tuple #[.int .u64 0, .int .i64 1]) ∧ W = w' := by
  have hokH := Lib.hid hok
  clear hok
  go_enter Tryd.func74, Tryd.ntmps74
  go_wp2_with (go_at_call 105; refine (docRight_no _ _ hokH.out _).mono ?_; rintro e w' ⟨rfl, rfl⟩)
  go_ret2
  exact ⟨rfl, rfl⟩
theorem docGet_range (s : ByteArray) (at_ w o : Int) (hok : ok w o) (hw : 0 ≤ w) (hw8 : w ≤ 8) (h : at_ < 0 ∨ s.size < at_ + w) (_ : s.size ≤ 1000) (W : World) :
    Calls Tryd.prog 74 #[.string s, .int .i64 at_, .int .i64 w, .int .i64 o] W fun e w' => e = .returned (.tuple #[.int .u64 0, .int .i64 2]) ∧ W = w' := by
  have hokH := Lib.hid hok
  clear hok
  by_cases h0 : at_ < 0
  · clear h
    go_enter Tryd.func74, Tryd.ntmps74
    go_wp2_with (go_at_call 105; refine (docRight_yes _ _ hokH.out _).mono ?_; rintro e w' ⟨rfl, rfl⟩)
    go_ret2
    exact ⟨rfl, rfl⟩
  by_cases h1 : (s.size : Int) < at_
  · clear h
    go_enter Tryd.func74, Tryd.ntmps74
    go_wp2_with (go_at_call 105; refine (docRight_yes _ _ hokH.out _).mono ?_; rintro e w' ⟨rfl, rfl⟩)
    go_ret2
    exact ⟨rfl, rfl⟩
  · have h2 : (s.size : Int) - at_ < w := by omega
    clear h
    go_enter Tryd.func74, Tryd.ntmps74
    go_wp2_with (go_at_call 105; refine (docRight_yes _ _ hokH.out _).mono ?_; rintro e w' ⟨rfl, rfl⟩)
    go_ret2
    exact ⟨rfl, rfl⟩
theorem extract_size (s : ByteArray) (a b : Nat) (h1 : a ≤ b) (h2 : b ≤ s.size) : (s.extract a b).size = b - a := by
  rw [ByteArray.size_extract]; omega
theorem beV_succ (g : Nat → Nat) (k : Nat) : ((beV g (k + 1) : Nat) : Int) = (beV g k : Nat) * 256 + (g k : Nat) := by rw [beV]; simp

set_option maxHeartbeats 400000 in
theorem docGet_yes (s : ByteArray) (at_ w o : Nat) (ho : o ≤ 1) (hok : ok w o) (hw : w ≤ 8) (hw1 : 1 ≤ w) (h : at_ + w ≤ s.size) (hs : s.size ≤ 1000) (W : World) :
    Calls Tryd.prog 74 #[.string s, .int .i64 at_, .int .i64 w, .int .i64 o] W fun e w' => e = .returned (.tuple #[.int .u64 (leV (src s at_ w o) w : Nat), .int .i64 0]) ∧ W = w' := by
  have hokH := Lib.hid hok
  clear hok
  have key : ∀ b : ByteArray, b.size = w → (∀ j, j < w → byteAt b (w - 1 - j) = src s at_ w o j) → leV (src s at_ w o) w = beV (byteAt b) w := fun b hb hj => by
    rw [beV_le]; exact leV_congr _ _ _ (fun j h => (hj j h).symm)
  have hez := extract_size s at_ (at_ + w) (by omega) h
  have e1 : at_ + w - at_ = w := by omega
  rw [e1] at hez
  have loop : ∀ b : ByteArray, b.size = w → leV (src s at_ w o) w = beV (byteAt b) w → True := fun _ _ _ => trivial
  have hE : Hid (∀ i, i < w → byteAt (s.extract at_ (at_ + w)) i = byteAt s (at_ + i)) := Lib.hid fun i hi => byteAt_extract s at_ (at_ + w) i (by omega) h
  have key' := Lib.hid key
  have hezH := Lib.hid hez
  clear key loop hez
  rcases (show o = 0 ∨ o = 1 by omega) with rfl | rfl
  · have hv := key'.out (Ref.rev (s.extract at_ (at_ + w))) (by rw [Ref.rev_size]; exact hezH.out) (fun j hj => by
      rw [Ref.rev_at _ _ (by rw [hezH.out]; omega), hezH.out, hE.out _ (by omega)]
      show _ = byteAt s (at_ + plc w 0 j)
      congr 2
      simp [plc]; omega)
    have hbz : (Ref.rev (s.extract at_ (at_ + w))).size = w := by rw [Ref.rev_size]; exact hezH.out
    have hbzH := Lib.hid hbz
    have hz1 : (s.extract at_ (at_ + w)).size ≤ 1000 := by rw [hezH.out]; omega
    have C := Lib.hid (fun W => Ref.turn_any (s.extract at_ (at_ + w)) (by omega) W)
    rw [hv]
    clear hv hbz key' e1
    go_enter Tryd.func74, Tryd.ntmps74
    go_wp2_with fail
    refine (docRight_yes _ _ hokH.out _).mono ?_; rintro e w' ⟨rfl, rfl⟩
    go_wp2_with fail
    refine (C.out _).mono ?_; rintro e w' ⟨rfl, rfl⟩
    generalize hbe : Ref.rev (s.extract at_ (at_ + w)) = b at *
    have hbeH := Lib.hid hbe
    clear hbe
    have hb1000 : b.size ≤ 1000 := by rw [hbzH.out]; omega
    go_wp2_with fail
    go_loop [11, 12] (fun n i => ∃ k : Nat, k ≤ b.size ∧ i = .int .i64 k ∧ n = .int .u64 (beV (byteAt b) k : Nat)) (fun _ i => b.size - (intOf i).toNat)
    case atStart => exact ⟨0, Nat.zero_le _, rfl, rfl⟩
    case round =>
      obtain ⟨k, hk, rfl, rfl⟩ := hrel
      by_cases hlt : k < b.size
      · have hb := byteAt_eq b k hlt
        have hb2 := byteAt_lt b k
        have HB := Lib.hid (beV_succ (byteAt b) k)
        have hv1 : beV (byteAt b) k * 256 ≤ 18446744073709551360 := by
          have h1 := beV_lt (byteAt b) (byteAt_lt b) (k + 1)
          have h2 := pow256 (k + 1) (by have := hbzH.out; omega)
          rw [beV] at h1
          have h3 := beV_lt (byteAt b) (byteAt_lt b) k
          have h4 := Nat.pow_le_pow_right (n := 256) (by omega) (show k ≤ 7 by have := hbzH.out; omega)
          have h5 : (256 : Nat) ^ 7 = 72057594037927936 := by decide
          omega
        generalize byteAt b k = c at *
        go_wp2_with fail
        go_round
        case rel => exact ⟨k + 1, by omega, by go_num, by rw [HB.out]⟩
        case measure => simp [intOf]; omega
      · obtain rfl : k = b.size := by omega
        go_wp2_with fail
        go_ret2
        exact ⟨by have h1 := hbzH.out; have h2 := hbeH.out; simp [h1, h2], rfl⟩
  · have hv := key'.out (s.extract at_ (at_ + w)) hezH.out (fun j hj => by
      rw [hE.out _ (by omega)]
      show _ = byteAt s (at_ + plc w 1 j)
      simp [plc])
    have hbzH := hezH
    rw [hv]
    clear hv key' e1
    go_enter Tryd.func74, Tryd.ntmps74
    go_wp2_with fail
    refine (docRight_yes _ _ hokH.out _).mono ?_; rintro e w' ⟨rfl, rfl⟩
    go_wp2_with fail
    generalize hbe : s.extract at_ (at_ + w) = b at *
    have hbeH := Lib.hid hbe
    clear hbe
    have hb1000 : b.size ≤ 1000 := by rw [hbzH.out]; omega
    go_wp2_with fail
    go_loop [11, 12] (fun n i => ∃ k : Nat, k ≤ b.size ∧ i = .int .i64 k ∧ n = .int .u64 (beV (byteAt b) k : Nat)) (fun _ i => b.size - (intOf i).toNat)
    case atStart => exact ⟨0, Nat.zero_le _, rfl, rfl⟩
    case round =>
      obtain ⟨k, hk, rfl, rfl⟩ := hrel
      by_cases hlt : k < b.size
      · have hb := byteAt_eq b k hlt
        have hb2 := byteAt_lt b k
        have HB := Lib.hid (beV_succ (byteAt b) k)
        have hv1 : beV (byteAt b) k * 256 ≤ 18446744073709551360 := by
          have h1 := beV_lt (byteAt b) (byteAt_lt b) (k + 1)
          have h2 := pow256 (k + 1) (by have := hbzH.out; omega)
          rw [beV] at h1
          have h3 := beV_lt (byteAt b) (byteAt_lt b) k
          have h4 := Nat.pow_le_pow_right (n := 256) (by omega) (show k ≤ 7 by have := hbzH.out; omega)
          have h5 : (256 : Nat) ^ 7 = 72057594037927936 := by decide
          omega
        generalize byteAt b k = c at *
        go_wp2_with fail
        go_round
        case rel => exact ⟨k + 1, by omega, by go_num, by rw [HB.out]⟩
        case measure => simp [intOf]; omega
      · obtain rfl : k = b.size := by omega
        go_wp2_with fail
        go_ret2
        exact ⟨by have h1 := hbzH.out; have h2 := hbeH.out; simp [h1, h2], rfl⟩

/-- byte k of a number, from the least on -/
def byN (n k : Nat) : UInt8 := UInt8.ofNat (n / 256 ^ k % 256)
/-- its low w bytes, the least first -/
def loB (n w : Nat) : List UInt8 := (List.range w).map (byN n)
def loS (n w : Nat) : ByteArray := ⟨(loB n w).toArray⟩
theorem loS_size (n w : Nat) : (loS n w).size = w := by show (loB n w).toArray.size = w; simp [loB]
theorem loS_succ (n w : Nat) : loS n (w + 1) = loS n w ++ ⟨#[UInt8.ofNat (n / 256 ^ w % 256)]⟩ := by
  apply ByteArray.ext
  unfold loS loB
  rw [List.range_succ, ByteArray.data_append]
  simp [byN]
theorem loS_at (n w k : Nat) (h : k < w) : byteAt (loS n w) k = n / 256 ^ k % 256 := by
  unfold loS
  rw [byteAt_list]
  simp [loB, h, byN, UInt8.toNat_ofNat']
/-- as bytes, in an order -/
def putS (n w o : Nat) : ByteArray := if o = 1 then Ref.rev (loS n w) else loS n w
theorem div_succ (n k : Nat) : ((n / 256 ^ (k + 1) : Nat) : Int) = ((n / 256 ^ k : Nat) : Int) / 256 := by
  rw [Nat.pow_succ, ← Nat.div_div_eq_div_mul]; rfl

set_option maxHeartbeats 400000 in
theorem docPut_yes (n w o : Nat) (hn : n < 18446744073709551616) (ho : o ≤ 1) (hok : ok w o) (hw : w ≤ 8) (W : World) :
    Calls Tryd.prog 80 #[.int .u64 n, .int .i64 w, .int .i64 o] W fun e w' => e = .returned (.tuple #[.string (putS n w o), .int .i64 0]) ∧ Below W.heap.size W w' := by
  have hokH := Lib.hid hok
  clear hok
  go_enter Tryd.func80, Tryd.ntmps80
  go_wp2_with fail
  refine (docRight_yes _ _ hokH.out _).mono ?_; rintro e w' ⟨rfl, rfl⟩
  go_wp2_with fail
  go_loopw [0, 8, 9] (fun m s i wr => ∃ k : Nat, k ≤ w ∧ i = .int .i64 k ∧ s = .string (loS n k) ∧ m = .int .u64 (n / 256 ^ k : Nat) ∧ Below W.heap.size W wr) (fun _ _ i _ => w - (intOf i).toNat)
  case atStart => exact ⟨0, Nat.zero_le _, rfl, rfl, by simp, Below.refl _ _⟩
  case round =>
    obtain ⟨k, hk, rfl, rfl, rfl, hB⟩ := hrel
    have hBH := Lib.hid hB
    clear hB
    by_cases hlt : k < w
    · have hz : (loS n k).size ≤ 8 := by rw [loS_size]; omega
      have HS := Lib.hid (loS_succ n k)
      have HD := Lib.hid (div_succ n k)
      have hd : n / 256 ^ k ≤ 18446744073709551615 := Nat.le_trans (Nat.div_le_self _ _) (by omega)
      generalize n / 256 ^ k = d at *
      go_wp2_with (go_at_call 69; refine (Chr.char_any _ (by omega) _).mono ?_; rintro e w' ⟨rfl, hb⟩; have hbH := Lib.hid (hBH.out.trans (hb.mono hBH.out.size)))
      clear hb
      go_roundw
      case rel => exact ⟨k + 1, by omega, by go_num, by rw [HS.out], by rw [HD.out], hbH.out⟩
      case measure => simp [intOf]; omega
    · obtain rfl : k = w := by omega
      rcases (show o = 0 ∨ o = 1 by omega) with rfl | rfl
      · go_wp2_with fail
        go_ret2
        exact ⟨by simp [putS], hBH.out⟩
      · have hz : (loS n k).size ≤ 1000000 := by rw [loS_size]; omega
        go_wp2_with fail
        refine (Ref.turn_any _ hz _).mono ?_; rintro e w' ⟨rfl, rfl⟩
        go_wp2_with fail
        go_ret2
        exact ⟨by simp [putS], hBH.out⟩
theorem docPut_arg (n w o : Int) (hok : ¬ ok w o) (W : World) :
    Calls Tryd.prog 80 #[.int .u64 n, .int .i64 w, .int .i64 o] W fun e w' => e = .returned (.tuple #[.string ⟨#[]⟩, .int .i64 1]) ∧ W = w' := by
  have hokH := Lib.hid hok
  clear hok
  go_enter Tryd.func80, Tryd.ntmps80
  go_wp2_with fail
  refine (docRight_no _ _ hokH.out _).mono ?_; rintro e w' ⟨rfl, rfl⟩
  go_wp2_with fail
  go_ret2
  exact ⟨rfl, rfl⟩
end Go.Proofs.YtifnochpmlllgaaDoor.DocW
