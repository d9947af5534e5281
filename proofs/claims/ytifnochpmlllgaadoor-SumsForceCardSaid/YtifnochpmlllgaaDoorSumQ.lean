/-
  PROVED HERE: lists of bools that a call owns; the bits of a text as such a list. Conditions: as each theorem states.
-/
import Derived.Test.YtifnochpmlllgaaDoorSumI
import Derived.Test.YtifnochpmlllgaaDoorZer
namespace Go.Proofs.YtifnochpmlllgaaDoor.Sum
open Go.RowKit
def bl (f : Nat → Bool) (n : Nat) : List Value := (List.range n).map fun j => Value.bool (f j)
theorem bl_len (f : Nat → Bool) (n : Nat) : (bl f n).length = n := by simp [bl]
theorem bl_snoc (f : Nat → Bool) (n : Nat) : bl f n ++ [.bool (f n)] = bl f (n + 1) := by simp [bl, List.range_succ]
theorem bl_get (f : Nat → Bool) (n j : Nat) (h : j < (bl f n).length) : (bl f n)[j] = .bool (f j) := by simp [bl]
theorem bl_set (f : Nat → Bool) (n i : Nat) (b : Bool) : (bl f n).set i (.bool b) = bl (fun j => if j = i then b else f j) n := by
  apply List.ext_getElem
  · simp [bl]
  · intro j h1 h2
    rw [bl_get, List.getElem_set]
    by_cases h : i = j
    · subst h; simp
    · rw [if_neg h, if_neg (fun e => h e.symm), bl_get]
theorem bl_congr (f g : Nat → Bool) (n : Nat) (h : ∀ j, j < n → f j = g j) : bl f n = bl g n := by
  unfold bl
  apply List.map_congr_left
  intro j hj
  rw [h j (List.mem_range.1 hj)]
theorem bl_zeros (f : Nat → Bool) (n k : Nat) : bl f n ++ List.replicate k (Value.bool false) = bl (fun j => decide (j < n) && f j) (n + k) := by
  apply List.ext_getElem
  · simp [bl]
  · intro j h1 h2
    rw [bl_get, List.getElem_append]
    split
    · rename_i h
      rw [bl_len] at h
      rw [bl_get, decide_eq_true h, Bool.true_and]
    · rename_i h
      rw [bl_len] at h
      rw [List.getElem_replicate, decide_eq_false h, Bool.false_and]
theorem bl_one (f : Nat → Bool) (n : Nat) : ∀ u ∈ bl f n, u.oneCell' = true := by
  intro u hu
  unfold bl at hu
  rw [List.mem_map] at hu
  obtain ⟨j, _, rfl⟩ := hu
  rfl
/-- A bit of a number, as the document reckons it. -/
theorem bit_doc (c n : Nat) : ((c : Int) / ((Pow.p2 n : Nat) : Int) % 2 == 1) = c.testBit n := by
  rw [← Int.natCast_ediv, Nat.testBit_eq_decide_div_mod_eq]
  unfold Pow.p2
  rcases (show c / 2 ^ n % 2 = 0 ∨ c / 2 ^ n % 2 = 1 by omega) with h | h
  · rw [h, show ((c / 2 ^ n : Nat) : Int) % 2 = 0 by omega]; rfl
  · rw [h, show ((c / 2 ^ n : Nat) : Int) % 2 = 1 by omega]; rfl
theorem raw_bit (s : ByteArray) (t : Bool) (i k : Nat) (hk : k < 8) : raw s t (8 * i + k) = (byteAt s i).testBit (if t then k else 7 - k) := by
  unfold raw
  rw [show (8 * i + k) / 8 = i by omega, show (8 * i + k) % 8 = k by omega]
  exact tc_bit t _ k (byteAt_lt s i) hk
theorem pow2w (n : Nat) (h : n ≤ 63) (W : World) : Calls Tryd.prog 73 #[.int .i64 n] W fun e w' => e = .returned (.int .u64 (Pow.p2 n : Nat)) ∧ w' = W := (Pow.pow2_any n h W).mono fun _ _ h => ⟨h.1, h.2.symm⟩
theorem p2_pos (n : Nat) : (0 : Int) < ((Pow.p2 n : Nat) : Int) := by have : 0 < Pow.p2 n := Nat.two_pow_pos n; omega
theorem p2_pos' (n : Nat) : ((((Pow.p2 n : Nat) : Int)) == 0) = false := by rw [beq_eq_false_iff_ne]; have := p2_pos n; omega
/-- The numbers on the way to a bit, by names. -/
theorem bit_names (X n : Nat) (hX : X < 4294967296) : ∃ d r : Nat, IntKind.u64.wrap (X : Int) = X ∧ (X : Int).tdiv ((Pow.p2 n : Nat) : Int) = d ∧ IntKind.u64.wrap (d : Int) = d ∧ (d : Int).tmod 2 = r ∧ IntKind.u64.wrap (r : Int) = r ∧ ((r : Int) == 1) = X.testBit n := by
  have hd : X / Pow.p2 n ≤ X := Nat.div_le_self _ _
  have hb := bit_doc X n
  have e1 : (X : Int).tdiv ((Pow.p2 n : Nat) : Int) = ((X / Pow.p2 n : Nat) : Int) := by rw [Int.tdiv_eq_ediv_of_nonneg (by omega), Int.natCast_ediv]
  rw [← Int.natCast_ediv] at hb
  generalize X / Pow.p2 n = d at *
  refine ⟨d, d % 2, ?_, e1, ?_, ?_, ?_, ?_⟩
  · rw [IntKind.wrap_u64]; omega
  · rw [IntKind.wrap_u64]; omega
  · rw [Int.tmod_eq_emod_of_nonneg (by omega)]; omega
  · rw [IntKind.wrap_u64]; omega
  · rw [← hb, Int.natCast_emod]; rfl
theorem p2_ne (n : Nat) : ¬ Pow.p2 n = 0 := by have : 0 < Pow.p2 n := Nat.two_pow_pos n; omega
/-- The bits so far, in a list of the call's own; the sum in its cells. -/
def Lst (wr : World) (B : Nat) (v : Value) (f : Nat → Bool) (n : Nat) : Prop := (∃ a c, v = .slice a n c) ∧ Hid (Own wr B 4 v (bl f n))
def lf (s : ByteArray) (t : Bool) (I w i j : Nat) : Bool := (decide (j < 8 * s.size) && raw s t j) != (decide (j < i) && I.testBit (w - 1 - j))
theorem lf_zero (s : ByteArray) (t : Bool) (I w n : Nat) : bl (fun j => decide (j < 8 * s.size) && raw s t j) n = bl (lf s t I w 0) n := bl_congr _ _ _ (fun j _ => by simp [lf])
theorem lf_set (s : ByteArray) (t : Bool) (I w n k : Nat) : (bl (lf s t I w k) n).set k (.bool (lf s t I w k k != I.testBit (w - 1 - k))) = bl (lf s t I w (k + 1)) n := by
  rw [bl_set]
  refine bl_congr _ _ _ (fun j _ => ?_)
  by_cases h : j = k
  · subst h
    simp [lf]
  · rw [if_neg h]
    unfold lf
    congr 2
    rw [decide_eq_decide]; omega
theorem lf_dv (w P : Nat) (t : Bool) (I : Nat) (s : ByteArray) (j : Nat) : lf s t I w w j = dv w P t I s 0 j := by
  rw [dv_first]; rfl
/-- The list in the midst of a step of the division. -/
def Dq (w P : Nat) (t : Bool) (I : Nat) (s : ByteArray) (f : Nat → Bool) (k q : Nat) : Prop := ∀ j, k + 1 ≤ j → f j = if j < k + 1 + q then dv w P t I s (k + 1) j else dv w P t I s k j
def Dk (w P : Nat) (t : Bool) (I : Nat) (s : ByteArray) (f : Nat → Bool) (k : Nat) : Prop := ∀ j, k ≤ j → f j = dv w P t I s k j
theorem Dk.zero (w P : Nat) (t : Bool) (I : Nat) (s : ByteArray) : Dk w P t I s (lf s t I w w) 0 := fun j _ => lf_dv w P t I s j
theorem Dk.q {w P : Nat} {t : Bool} {I : Nat} {s : ByteArray} {f : Nat → Bool} {k : Nat} (h : Dk w P t I s f k) : Dq w P t I s f k 0 := fun j hj => by rw [if_neg (by omega)]; exact h j (by omega)
theorem Dk.skip {w P : Nat} {t : Bool} {I : Nat} {s : ByteArray} {f : Nat → Bool} {k : Nat} (h : Dk w P t I s f k) (hk : k < 8 * s.size) (hw : 1 ≤ w) (hf : f k = false) : Dk w P t I s f (k + 1) := fun j hj => by
  rw [h j (by omega), dv_skip w P t I s k j hk hw (by rw [← h k (Nat.le_refl _)]; exact hf) (by omega)]
theorem Dq.next {w P : Nat} {t : Bool} {I : Nat} {s : ByteArray} {f : Nat → Bool} {k q : Nat} (h : Dq w P t I s f k q) (hk : k < 8 * s.size) (hw : 1 ≤ w) (hq : q < w) (h1 : dv w P t I s k k = true) :
    Dq w P t I s (fun j => if j = k + 1 + q then (f (k + 1 + q) != P.testBit (w - 1 - q)) else f j) k (q + 1) := fun j hj => by
  by_cases e : j = k + 1 + q
  · subst e
    simp only [if_true]
    rw [if_pos (by omega), h _ hj, if_neg (by omega), dv_step w P t I s k q hk hw hq, h1, Bool.true_and]
  · simp only [if_neg e]
    rw [h j hj]
    by_cases e2 : j < k + 1 + q
    · rw [if_pos e2, if_pos (by omega)]
    · rw [if_neg e2, if_neg (by omega)]
theorem Dq.last {w P : Nat} {t : Bool} {I : Nat} {s : ByteArray} {f : Nat → Bool} {k : Nat} (h : Dq w P t I s f k w) : Dk w P t I s f (k + 1) := fun j hj => by
  rw [h j hj]
  split
  · rfl
  · rw [dv_far w P t I s k j (by omega)]
theorem own_cap {w : World} {B E n cap : Nat} {a : Option Addr} {xs : List Value} (h : Own w B E (.slice a n cap) xs) : n ≤ cap := by
  rcases h.2 with ⟨he, h0⟩ | ⟨g, cap', cur, he, _, _, hc, _⟩
  · simp only [Value.slice.injEq] at he; omega
  · simp only [Value.slice.injEq] at he; omega
end Go.Proofs.YtifnochpmlllgaaDoor.Sum
