/-
  PROVED HERE: the register behind a text into which bytes were put; numbers turned twice; the contracts of sums.Force where it refuses. Conditions: as each theorem states.
-/
import Derived.Test.YtifnochpmlllgaaDoorSumT
namespace Go.Proofs.YtifnochpmlllgaaDoor.Sum
open Go.RowKit
theorem rv_bit (n : Nat) : ∀ k i, (rv n k).testBit i = (decide (i < k) && n.testBit (k - 1 - i))
  | 0, i => by simp [rv]
  | k + 1, i => by
    rw [rv]
    cases i with
    | zero =>
      rw [Nat.testBit_zero, Nat.testBit_eq_decide_div_mod_eq]
      simp
    | succ i =>
      rw [Nat.testBit_succ, show (rv n k * 2 + n / 2 ^ k % 2) / 2 = rv n k by omega, rv_bit n k i]
      by_cases h : i < k
      · rw [decide_eq_true h, decide_eq_true (show i + 1 < k + 1 by omega), show k - 1 - i = k + 1 - 1 - (i + 1) by omega]
      · rw [decide_eq_false h, decide_eq_false (show ¬ i + 1 < k + 1 by omega)]; rfl
theorem rv_rv (n k : Nat) (h : n < 2 ^ k) : rv (rv n k) k = n := by
  apply Nat.eq_of_testBit_eq
  intro i
  rw [rv_bit, rv_bit]
  by_cases hi : i < k
  · rw [decide_eq_true hi, decide_eq_true (show k - 1 - i < k by omega), show k - 1 - (k - 1 - i) = i by omega]; rfl
  · rw [decide_eq_false hi, Bool.false_and, Nat.testBit_lt_two_pow (Nat.lt_of_lt_of_le h (Nat.pow_le_pow_right (by decide) (by omega)))]
theorem ou_inn (w : Nat) (t : Bool) (n O : Nat) (hn : n < 2 ^ w) (hO : O < 2 ^ w) : ou w t (inn w t n O) O = n := by
  have h := Nat.xor_lt_two_pow hn hO
  unfold ou inn
  cases t
  · simp [Nat.xor_assoc]
  · simp only [if_true]
    rw [rv_rv _ _ h, Nat.xor_assoc, Nat.xor_self, Nat.xor_zero]
theorem inn_lt (w : Nat) (t : Bool) (n O : Nat) (hn : n < 2 ^ w) (hO : O < 2 ^ w) : inn w t n O < 2 ^ w := by
  have h := Nat.xor_lt_two_pow hn hO
  unfold inn
  cases t
  · exact h
  · exact rv_lt _ _
/-- The register ahead of the last k bytes. -/
def tb (w P : Nat) (t : Bool) (s : ByteArray) (x : Nat) : Nat → Nat
  | 0 => x
  | k + 1 => bst8 w P t (tb w P t s x k) (byteAt s (s.size - 1 - k))
theorem tb_lt (w P : Nat) (t : Bool) (s : ByteArray) (x : Nat) (hw : 8 ≤ w) (hP : P < 2 ^ w) (hx : x < 2 ^ w) : ∀ k, tb w P t s x k < 2 ^ w
  | 0 => hx
  | k + 1 => bst8_lt w P t _ _ hw hP (tb_lt w P t s x hw hP hx k) (byteAt_lt _ _)
theorem bz_lt (w P x k : Nat) (hw : 1 ≤ w) (hP : P < 2 ^ w) (hx : x < 2 ^ w) : bz w P x k < 2 ^ w := bks_lt w P x hw hP hx _
theorem tc_tc : ∀ t : Bool, ∀ c : Fin 256, tc t (tc t c.val) = c.val := by decide +kernel
/-- The bytes that are put in. -/
def fb (w : Nat) (t : Bool) (d n k : Nat) : List UInt8 := (List.range n).map fun j => if j < k then UInt8.ofNat (tc t (dby w d j)) else 0
theorem fb_len (w : Nat) (t : Bool) (d n k : Nat) : (fb w t d n k).length = n := by simp [fb]
theorem fb_set (w : Nat) (t : Bool) (d n k : Nat) : (fb w t d n k).set k (UInt8.ofNat (tc t (dby w d k))) = fb w t d n (k + 1) := by
  apply List.ext_getElem
  · simp [fb]
  · intro j h1 h2
    rw [List.getElem_set]
    simp only [fb, List.getElem_map, List.getElem_range]
    by_cases h : k = j
    · subst h; simp
    · rw [if_neg h]
      by_cases h3 : j < k
      · rw [if_pos h3, if_pos (by omega)]
      · rw [if_neg h3, if_neg (by omega)]
theorem fb_byte (w : Nat) (t : Bool) (d n k : Nat) (hk : k < n) : byteAt ⟨(fb w t d n n).toArray⟩ k = tc t (dby w d k) := by
  rw [byteAt_list, List.getElem?_eq_getElem (by rw [fb_len]; exact hk)]
  simp only [fb, List.getElem_map, List.getElem_range, Option.getD_some]
  rw [if_pos hk, UInt8.toNat_ofNat']
  have := tc_lt t _ (dby_lt w d k)
  omega
/-- The text with the bytes in it. -/
theorem cr_eq (w P : Nat) (t : Bool) (I : Nat) (a b : ByteArray) : ∀ k, (∀ i, i < k → byteAt a i = byteAt b i) → cr w P t I a k = cr w P t I b k
  | 0, _ => rfl
  | k + 1, h => by rw [cr, cr, cr_eq w P t I a b k (fun i hi => h i (by omega)), h k (by omega)]
theorem cr_fd (w P : Nat) (t : Bool) (I : Nat) (a : ByteArray) (at_ d : Nat) : ∀ k, (∀ i, i < k → byteAt a (at_ + i) = tc t (dby w d i)) → cr w P t I a (at_ + k) = fd w P (cr w P t I a at_) d k
  | 0, _ => rfl
  | k + 1, h => by
    rw [← Nat.add_assoc, cr, cr_fd w P t I a at_ d k (fun i hi => h i (by omega)), fd, h k (by omega), stp, tc_tc t ⟨dby w d k, dby_lt w d k⟩]
theorem cr_tb (w P : Nat) (t : Bool) (I : Nat) (a s : ByteArray) (x q n : Nat) (hw : 8 ≤ w) (hodd : P % 2 = 1) (hP : P < 2 ^ w) (hx : x < 2 ^ w) (hb : ∀ i, q ≤ i → i < s.size → byteAt a (n + i) = byteAt s i) (h0 : cr w P t I a (n + q) = tb w P t s x (s.size - q)) (hq : q ≤ s.size) :
    ∀ j, q + j ≤ s.size → cr w P t I a (n + (q + j)) = tb w P t s x (s.size - (q + j))
  | 0, _ => h0
  | j + 1, h => by
    have e : s.size - (q + j) = s.size - (q + (j + 1)) + 1 := by omega
    rw [show n + (q + (j + 1)) = n + (q + j) + 1 by omega, cr, cr_tb w P t I a s x q n hw hodd hP hx hb h0 hq j (by omega), hb (q + j) (by omega) (by omega), e, tb, show s.size - 1 - (s.size - (q + (j + 1))) = q + j by omega]
    exact stp_bst8 w P t _ _ hw hodd hP (tb_lt w P t s x hw hP hx _)
theorem byteAt_app (a b : ByteArray) (i : Nat) : byteAt (a ++ b) i = if i < a.size then byteAt a i else byteAt b (i - a.size) := by
  unfold byteAt
  rw [ByteArray.data_append, Array.getElem?_append]
  have e : a.data.size = a.size := rfl
  rw [e]
  split <;> rfl
/-- The bytes do what they were to do. -/
theorem forced (w P : Nat) (t : Bool) (I O : Nat) (s : ByteArray) (q n want : Nat) (hn : w = 8 * n) (hw : 8 ≤ w) (hodd : P % 2 = 1) (hP : P < 2 ^ w) (hI : I < 2 ^ w) (hO : O < 2 ^ w) (hwant : want < 2 ^ w) (hq : q ≤ s.size) (h3 : w = 8 ∨ w = 16 ∨ w = 32)
    (d : Nat) (hd : d = cr w P t I s q ^^^ bz w P (tb w P t s (inn w t want O) (s.size - q)) n) (a : ByteArray) (ha : a = s.extract 0 q ++ ⟨(fb w t d n n).toArray⟩ ++ s.extract q s.size) : ou w t (cr w P t I a a.size) O = want := by
  have hx := inn_lt w t want O hwant hO
  have e1 : (s.extract 0 q).size = q := by simp [ByteArray.size_extract]; omega
  have e2 : (⟨(fb w t d n n).toArray⟩ : ByteArray).size = n := by
    show ((fb w t d n n).toArray).size = n
    rw [List.size_toArray, fb_len]
  have e3 : (s.extract q s.size).size = s.size - q := by simp [ByteArray.size_extract]
  have es : a.size = n + (q + (s.size - q)) := by rw [ha, ByteArray.size_append, ByteArray.size_append, e1, e2, e3]; omega
  have b1 : ∀ i, i < q → byteAt a i = byteAt s i := fun i hi => by
    rw [ha, byteAt_app, ByteArray.size_append, e1, if_pos (by omega), byteAt_app, e1, if_pos hi, byteAt_extract s 0 q i (by omega) hq, Nat.zero_add]
  have b2 : ∀ i, i < n → byteAt a (q + i) = tc t (dby w d i) := fun i hi => by
    rw [ha, byteAt_app, ByteArray.size_append, e1, e2, if_pos (by omega), byteAt_app, e1, if_neg (by omega), show q + i - q = i by omega, fb_byte w t d n i hi]
  have b3 : ∀ i, q ≤ i → i < s.size → byteAt a (n + i) = byteAt s i := fun i h1 h2 => by
    rw [ha, byteAt_app, ByteArray.size_append, e1, e2, if_neg (by omega), byteAt_extract s q s.size (n + i - (q + n)) (by omega) (Nat.le_refl _), show q + (n + i - (q + n)) = i by omega]
  have c1 := cr_eq w P t I a s q b1
  have c2 := cr_fd w P t I a q d n b2
  rw [c1, hd, fd_there w P _ _ n hn hw hodd hP (cr_lt w P t I s h3 hP hI q) (tb_lt w P t s _ hw hP hx _), Nat.add_comm q n] at c2
  have c3 := cr_tb w P t I a s _ q n hw hodd hP hx b3 c2 hq (s.size - q) (by omega)
  rw [es, c3, show s.size - (q + (s.size - q)) = 0 by omega, tb, ou_inn w t want O hwant hO]
def FP (l : ByteArray) (x : Value) (W : World) (e : Ending) (w' : World) : Prop := e = .returned (.tuple #[.string l, x]) ∧ Below W.heap.size W w'
set_option maxRecDepth 100000 in
set_option maxHeartbeats 2000000 in
theorem force_no (w : Int) (P : Nat) (t : Bool) (I O : Nat) (s : ByteArray) (q : Int) (n : Nat) (hg : ¬ good w P I O) (hw : -9223372036854775808 ≤ w ∧ w ≤ 9223372036854775807) (hP : P < 4294967296) (hI : I < 4294967296) (hO : O < 4294967296) (W : World) :
    Calls Tryd.prog 48 #[Sm w P t I O, .string s, .int .i64 q, .int .u32 n] W (FP ⟨#[]⟩ (.iface 23 (.int .i64 1)) W) := by
  have R := Lib.hid (right_any w P t I O hw hP hI hO)
  rw [decide_eq_false hg] at R
  unfold Sm at R ⊢
  clear hg
  go_enter Tryd.func48, Tryd.ntmps48
  go_wp2_with fail
  refine (R.out _).mono ?_; rintro e w1 ⟨rfl, h1⟩
  have H1 := Lib.hid (((Below.refl W.heap.size W).alloc (Nat.le_refl _) _).trans (h1.mono (by simp)))
  clear h1
  go_wp2_with fail
  go_ret2
  exact ⟨rfl, H1.out⟩
end Go.Proofs.YtifnochpmlllgaaDoor.Sum
