/-
  PROVED HERE: signs out of bytes, in plain Lean: the program's step and the document's are one. Conditions: as each theorem states.
-/
import Derived.Test.YthkigjhbcempbaaDoorMem
import Derived.Lib.DecodeN
namespace Go.Proofs.YthkigjhbcempbaaDoor.Td
open Go.Lib
def lo (b0 : Nat) : Nat := if b0 = 224 then 160 else if b0 = 240 then 144 else 128
def hi (b0 : Nat) : Nat := if b0 = 237 then 159 else if b0 = 244 then 143 else 191
def most (b0 : Nat) : Nat := if 194 ≤ b0 ∧ b0 ≤ 223 then 2 else if 224 ≤ b0 ∧ b0 ≤ 239 then 3 else if 240 ≤ b0 ∧ b0 ≤ 244 then 4 else 1
/-- How many bytes could begin a sign. -/
def bgn (n b0 b1 b2 b3 : Nat) : Nat :=
  if 1 < most b0 ∧ 1 < n ∧ lo b0 ≤ b1 ∧ b1 ≤ hi b0 then
    (if 2 < most b0 ∧ 2 < n ∧ 128 ≤ b2 ∧ b2 ≤ 191 then (if 3 < most b0 ∧ 3 < n ∧ 128 ≤ b3 ∧ b3 ≤ 191 then 4 else 3) else 2)
  else 1
/-- The program's step. -/
def stp (n b0 b1 b2 b3 : Nat) : Nat × Nat := if (decodeN n b0 b1 b2 b3).1 = 65533 ∧ (decodeN n b0 b1 b2 b3).2 = 1 then (65533, bgn n b0 b1 b2 b3) else decodeN n b0 b1 b2 b3
/-- What the document's begins says of the first k bytes: whether they may begin a sign. -/
def may (k b0 b1 b2 b3 : Nat) : Bool :=
  if b0 < 128 then decide (k = 1)
  else decide (1 < most b0 ∧ k ≤ most b0 ∧ (1 < k → lo b0 ≤ b1 ∧ b1 ≤ hi b0) ∧ (2 < k → 128 ≤ b2 ∧ b2 ≤ 191) ∧ (3 < k → 128 ≤ b3 ∧ b3 ≤ 191))
/-- .. and the sign that they are (-1: none). -/
def one (k b0 b1 b2 b3 : Nat) : Int :=
  if b0 < 128 then b0
  else if may k b0 b1 b2 b3 = true ∧ k = most b0 then
    (if k = 2 then ((b0 - 192) * 64 + (b1 - 128) : Int) else if k = 3 then ((b0 - 224) * 4096 + (b1 - 128) * 64 + (b2 - 128) : Int) else ((b0 - 240) * 262144 + (b1 - 128) * 4096 + (b2 - 128) * 64 + (b3 - 128) : Int))
  else -1
/-- The document's step: k bytes are looked at next, m of them may begin a sign. -/
def dst : Nat → Nat → Nat → Nat → Nat → Nat → Nat → Nat → Int × Nat
  | 0, _, m, _, _, _, _, _ => (-1, m)
  | f + 1, k, m, n, b0, b1, b2, b3 =>
    if n < k then (-1, m)
    else if may k b0 b1 b2 b3 = false then (-1, m)
    else if 0 ≤ one k b0 b1 b2 b3 then (one k b0 b1 b2 b3, k)
    else dst f (k + 1) k n b0 b1 b2 b3
def dstep (n b0 b1 b2 b3 : Nat) : Int × Nat :=
  let r := dst 5 1 0 n b0 b1 b2 b3
  (if r.1 < 0 then 65533 else r.1, max r.2 1)
theorem dst_cont (f k m n b0 b1 b2 b3 : Nat) (hb : ¬ b0 < 128) (hk : k < most b0) (h : ¬ n < k) (h2 : may k b0 b1 b2 b3 = true) : dst (f + 1) k m n b0 b1 b2 b3 = dst f (k + 1) k n b0 b1 b2 b3 := by
  have e : one k b0 b1 b2 b3 = -1 := by unfold one; rw [if_neg hb, if_neg (by omega)]
  rw [dst, if_neg h, if_neg (by rw [h2]; simp), e, if_neg (by decide)]
theorem dst_end (f k m n b0 b1 b2 b3 : Nat) (h : n < k) : dst f k m n b0 b1 b2 b3 = (-1, m) := by
  cases f with
  | zero => rfl
  | succ f => rw [dst, if_pos h]
theorem dst_stop (f k m n b0 b1 b2 b3 : Nat) (h : may k b0 b1 b2 b3 = false) : dst f k m n b0 b1 b2 b3 = (-1, m) := by
  cases f with
  | zero => rfl
  | succ f => rw [dst, h]; simp
theorem dst_full (f k m n b0 b1 b2 b3 : Nat) (h : ¬ n < k) (h2 : may k b0 b1 b2 b3 = true) (h3 : 0 ≤ one k b0 b1 b2 b3) : dst (f + 1) k m n b0 b1 b2 b3 = (one k b0 b1 b2 b3, k) := by
  rw [dst, if_neg h, if_neg (by rw [h2]; simp), if_pos h3]
theorem may_is (k b0 b1 b2 b3 : Nat) (hb : ¬ b0 < 128) : may k b0 b1 b2 b3 = decide (1 < most b0 ∧ k ≤ most b0 ∧ (1 < k → lo b0 ≤ b1 ∧ b1 ≤ hi b0) ∧ (2 < k → 128 ≤ b2 ∧ b2 ≤ 191) ∧ (3 < k → 128 ≤ b3 ∧ b3 ≤ 191)) := by
  unfold may; rw [if_neg hb]
/-- The document's step at a lead byte of m bytes: as far as the bytes go on. -/
theorem dst_multi (n b0 b1 b2 b3 m : Nat) (hm : most b0 = m) (h2 : 2 ≤ m) (h4 : m ≤ 4) (hn : 1 ≤ n) (hb : ¬ b0 < 128) (hl : 128 ≤ lo b0) (hq : 192 ≤ b0) (hq3 : m = 3 → 224 ≤ b0) (hq4 : m = 4 → 240 ≤ b0) :
    dst 5 1 0 n b0 b1 b2 b3 =
      if 1 < n ∧ lo b0 ≤ b1 ∧ b1 ≤ hi b0 then
        (if m = 2 then (((b0 - 192) * 64 + (b1 - 128) : Int), 2)
         else if 2 < n ∧ 128 ≤ b2 ∧ b2 ≤ 191 then
          (if m = 3 then (((b0 - 224) * 4096 + (b1 - 128) * 64 + (b2 - 128) : Int), 3)
           else if 3 < n ∧ 128 ≤ b3 ∧ b3 ≤ 191 then (((b0 - 240) * 262144 + (b1 - 128) * 4096 + (b2 - 128) * 64 + (b3 - 128) : Int), 4)
           else (-1, 3))
         else (-1, 2))
      else (-1, 1) := by
  have m1 : may 1 b0 b1 b2 b3 = true := by rw [may_is _ _ _ _ _ hb]; apply decide_eq_true; omega
  rw [dst_cont 4 1 0 n b0 b1 b2 b3 hb (by omega) (by omega) m1]
  by_cases c1 : 1 < n ∧ lo b0 ≤ b1 ∧ b1 ≤ hi b0
  · rw [if_pos c1]
    have m2 : may 2 b0 b1 b2 b3 = true := by rw [may_is _ _ _ _ _ hb]; apply decide_eq_true; omega
    by_cases e2 : m = 2
    · rw [if_pos e2]
      have o2 : one 2 b0 b1 b2 b3 = ((b0 - 192) * 64 + (b1 - 128) : Int) := by unfold one; rw [if_neg hb, if_pos ⟨m2, by omega⟩, if_pos rfl]
      rw [dst_full 3 2 1 n b0 b1 b2 b3 (by omega) m2 (by rw [o2]; omega), o2]
    · rw [if_neg e2, dst_cont 3 2 1 n b0 b1 b2 b3 hb (by omega) (by omega) m2]
      by_cases c2 : 2 < n ∧ 128 ≤ b2 ∧ b2 ≤ 191
      · rw [if_pos c2]
        have m3 : may 3 b0 b1 b2 b3 = true := by rw [may_is _ _ _ _ _ hb]; apply decide_eq_true; omega
        by_cases e3 : m = 3
        · rw [if_pos e3]
          have o3 : one 3 b0 b1 b2 b3 = ((b0 - 224) * 4096 + (b1 - 128) * 64 + (b2 - 128) : Int) := by unfold one; rw [if_neg hb, if_pos ⟨m3, by omega⟩, if_neg (by decide), if_pos rfl]
          rw [dst_full 2 3 2 n b0 b1 b2 b3 (by omega) m3 (by rw [o3]; have := hq3 e3; omega), o3]
        · rw [if_neg e3, dst_cont 2 3 2 n b0 b1 b2 b3 hb (by omega) (by omega) m3]
          by_cases c3 : 3 < n ∧ 128 ≤ b3 ∧ b3 ≤ 191
          · rw [if_pos c3]
            have m4 : may 4 b0 b1 b2 b3 = true := by rw [may_is _ _ _ _ _ hb]; apply decide_eq_true; omega
            have o4 : one 4 b0 b1 b2 b3 = ((b0 - 240) * 262144 + (b1 - 128) * 4096 + (b2 - 128) * 64 + (b3 - 128) : Int) := by unfold one; rw [if_neg hb, if_pos ⟨m4, by omega⟩, if_neg (by decide), if_neg (by decide)]
            rw [dst_full 1 4 3 n b0 b1 b2 b3 (by omega) m4 (by rw [o4]; have := hq4 (by omega); omega), o4]
          · rw [if_neg c3]
            by_cases d3 : 3 < n
            · exact dst_stop _ _ _ _ _ _ _ _ (by rw [may_is _ _ _ _ _ hb]; apply decide_eq_false; omega)
            · exact dst_end _ _ _ _ _ _ _ _ (by omega)
      · rw [if_neg c2]
        by_cases d2 : 2 < n
        · exact dst_stop _ _ _ _ _ _ _ _ (by rw [may_is _ _ _ _ _ hb]; apply decide_eq_false; omega)
        · exact dst_end _ _ _ _ _ _ _ _ (by omega)
  · rw [if_neg c1]
    by_cases d1 : 1 < n
    · exact dst_stop _ _ _ _ _ _ _ _ (by rw [may_is _ _ _ _ _ hb]; apply decide_eq_false; omega)
    · exact dst_end _ _ _ _ _ _ _ _ (by omega)
theorem bgn_is (n b0 b1 b2 b3 m : Nat) (hm : most b0 = m) : bgn n b0 b1 b2 b3 =
    if 1 < m ∧ 1 < n ∧ lo b0 ≤ b1 ∧ b1 ≤ hi b0 then
      (if 2 < m ∧ 2 < n ∧ 128 ≤ b2 ∧ b2 ≤ 191 then (if 3 < m ∧ 3 < n ∧ 128 ≤ b3 ∧ b3 ≤ 191 then 4 else 3) else 2)
    else 1 := by unfold bgn; rw [hm]
theorem bgn_bd (n b0 b1 b2 b3 : Nat) : 1 ≤ bgn n b0 b1 b2 b3 := by unfold bgn; (repeat' split) <;> omega
def full (n b1 b2 b3 m l h : Nat) : Prop := 1 < n ∧ l ≤ b1 ∧ b1 ≤ h ∧ (m = 2 ∨ (2 < n ∧ 128 ≤ b2 ∧ b2 ≤ 191 ∧ (m = 3 ∨ (3 < n ∧ 128 ≤ b3 ∧ b3 ≤ 191))))
theorem slow_no (n b0 b1 b2 b3 m l h : Nat) (h2 : 2 ≤ m) (h4 : m ≤ 4) (hf : ¬ full n b1 b2 b3 m l h) : slowN n b0 b1 b2 b3 m l h = (65533, 1) := by
  unfold full at hf
  unfold slowN
  repeat' split
  all_goals first | rfl | (exfalso; omega)
theorem step_gen (n b0 b1 b2 b3 m : Nat) (hm : most b0 = m) (h2 : 2 ≤ m) (h4 : m ≤ 4) (hn : 1 ≤ n) (hb : ¬ b0 < 128) (hl : 128 ≤ lo b0) (hh : hi b0 ≤ 191) (hq : 192 ≤ b0) (hq2 : m = 2 → b0 < 224) (hq3 : m = 3 → 224 ≤ b0 ∧ b0 < 240) (hq4 : m = 4 → 240 ≤ b0 ∧ b0 < 248)
    (H : slowN n b0 b1 b2 b3 m (lo b0) (hi b0) = decodeN n b0 b1 b2 b3) : dstep n b0 b1 b2 b3 = (((stp n b0 b1 b2 b3).1 : Int), (stp n b0 b1 b2 b3).2) := by
  have hM := dst_multi n b0 b1 b2 b3 m hm h2 h4 hn hb hl hq (fun h => (hq3 h).1) (fun h => (hq4 h).1)
  have hB := bgn_is n b0 b1 b2 b3 m hm
  have hB1 := bgn_bd n b0 b1 b2 b3
  unfold dstep stp
  rw [← H]
  by_cases hf : full n b1 b2 b3 m (lo b0) (hi b0)
  · unfold full at hf
    have hS : ∃ c : Nat, slowN n b0 b1 b2 b3 m (lo b0) (hi b0) = (c, m) ∧ dst 5 1 0 n b0 b1 b2 b3 = ((c : Int), m) := by
      rw [hM]
      unfold slowN
      clear hM hB hB1 H
      generalize lo b0 = l at *
      generalize hi b0 = h at *
      rcases (show m = 2 ∨ m = 3 ∨ m = 4 by omega) with rfl | rfl | rfl
      · refine ⟨b0 % 32 * 64 + b1 % 64, ?_, ?_⟩
        · rw [if_neg (by omega), if_neg (by omega), if_pos (by decide)]
        · rw [if_pos ⟨hf.1, hf.2.1, hf.2.2.1⟩, if_pos rfl]
          have := hq2 rfl
          apply Prod.ext
          · show (((b0 - 192) * 64 + (b1 - 128) : Int)) = _
            omega
          · rfl
      · refine ⟨b0 % 16 * 4096 + b1 % 64 * 64 + b2 % 64, ?_, ?_⟩
        · rw [if_neg (by omega), if_neg (by omega), if_neg (by decide), if_neg (by omega), if_pos (by decide)]
        · rw [if_pos ⟨hf.1, hf.2.1, hf.2.2.1⟩, if_neg (by decide), if_pos (by omega), if_pos rfl]
          have := hq3 rfl
          apply Prod.ext
          · show (((b0 - 224) * 4096 + (b1 - 128) * 64 + (b2 - 128) : Int)) = _
            omega
          · rfl
      · refine ⟨b0 % 8 * 262144 + b1 % 64 * 4096 + b2 % 64 * 64 + b3 % 64, ?_, ?_⟩
        · rw [if_neg (by omega), if_neg (by omega), if_neg (by decide), if_neg (by omega), if_neg (by decide), if_neg (by omega)]
        · rw [if_pos ⟨hf.1, hf.2.1, hf.2.2.1⟩, if_neg (by decide), if_pos (by omega), if_neg (by decide), if_pos (by omega)]
          have := hq4 rfl
          apply Prod.ext
          · show (((b0 - 240) * 262144 + (b1 - 128) * 4096 + (b2 - 128) * 64 + (b3 - 128) : Int)) = _
            omega
          · rfl
    obtain ⟨c, e1, e2⟩ := hS
    rw [e1, e2]
    have hne : ¬ (c = 65533 ∧ m = 1) := by omega
    simp only [hne, if_false]
    apply Prod.ext
    · show (if (c : Int) < 0 then (65533 : Int) else c) = c
      rw [if_neg (by omega)]
    · show max m 1 = m
      omega
  · rw [slow_no n b0 b1 b2 b3 m _ _ h2 h4 hf]
    have hD : dst 5 1 0 n b0 b1 b2 b3 = (-1, bgn n b0 b1 b2 b3) := by
      rw [hM, hB]
      unfold full at hf
      clear hM hB hB1 H
      generalize lo b0 = l at *
      generalize hi b0 = h at *
      repeat' split
      all_goals first | rfl | (exfalso; omega)
    rw [hD]
    simp only [and_self, if_true]
    apply Prod.ext
    · rfl
    · show max (bgn n b0 b1 b2 b3) 1 = bgn n b0 b1 b2 b3
      omega
theorem step_C2 (n b0 b1 b2 b3 : Nat) (hn : 1 ≤ n) (h1 : b1 < 256) (h2 : b2 < 256) (h3 : b3 < 256) (hb : 194 ≤ b0 ∧ b0 < 224) : dstep n b0 b1 b2 b3 = (((stp n b0 b1 b2 b3).1 : Int), (stp n b0 b1 b2 b3).2) := by
  have hm : most b0 = 2 := by unfold most; (repeat' split) <;> omega
  have hl : lo b0 = 128 := by unfold lo; (repeat' split) <;> omega
  have hh : hi b0 = 191 := by unfold hi; (repeat' split) <;> omega
  exact step_gen n b0 b1 b2 b3 2 hm (by decide) (by decide) hn (by omega) (by omega) (by omega) (by omega) (by omega) (by omega) (by omega) (by rw [hl, hh]; exact slow_C2 n b0 b1 b2 b3 hn h1 h2 h3 hb)
theorem step_E0 (n b0 b1 b2 b3 : Nat) (hn : 1 ≤ n) (h1 : b1 < 256) (h2 : b2 < 256) (h3 : b3 < 256) (hb : b0 = 224) : dstep n b0 b1 b2 b3 = (((stp n b0 b1 b2 b3).1 : Int), (stp n b0 b1 b2 b3).2) := by
  have hm : most b0 = 3 := by unfold most; (repeat' split) <;> omega
  have hl : lo b0 = 160 := by unfold lo; (repeat' split) <;> omega
  have hh : hi b0 = 191 := by unfold hi; (repeat' split) <;> omega
  exact step_gen n b0 b1 b2 b3 3 hm (by decide) (by decide) hn (by omega) (by omega) (by omega) (by omega) (by omega) (by omega) (by omega) (by rw [hl, hh]; exact slow_E0 n b0 b1 b2 b3 hn h1 h2 h3 hb)
theorem step_E1 (n b0 b1 b2 b3 : Nat) (hn : 1 ≤ n) (h1 : b1 < 256) (h2 : b2 < 256) (h3 : b3 < 256) (hb : (225 ≤ b0 ∧ b0 < 237) ∨ (238 ≤ b0 ∧ b0 < 240)) : dstep n b0 b1 b2 b3 = (((stp n b0 b1 b2 b3).1 : Int), (stp n b0 b1 b2 b3).2) := by
  have hm : most b0 = 3 := by unfold most; (repeat' split) <;> omega
  have hl : lo b0 = 128 := by unfold lo; (repeat' split) <;> omega
  have hh : hi b0 = 191 := by unfold hi; (repeat' split) <;> omega
  exact step_gen n b0 b1 b2 b3 3 hm (by decide) (by decide) hn (by omega) (by omega) (by omega) (by omega) (by omega) (by omega) (by omega) (by rw [hl, hh]; exact slow_E1 n b0 b1 b2 b3 hn h1 h2 h3 hb)
theorem step_ED (n b0 b1 b2 b3 : Nat) (hn : 1 ≤ n) (h1 : b1 < 256) (h2 : b2 < 256) (h3 : b3 < 256) (hb : b0 = 237) : dstep n b0 b1 b2 b3 = (((stp n b0 b1 b2 b3).1 : Int), (stp n b0 b1 b2 b3).2) := by
  have hm : most b0 = 3 := by unfold most; (repeat' split) <;> omega
  have hl : lo b0 = 128 := by unfold lo; (repeat' split) <;> omega
  have hh : hi b0 = 159 := by unfold hi; (repeat' split) <;> omega
  exact step_gen n b0 b1 b2 b3 3 hm (by decide) (by decide) hn (by omega) (by omega) (by omega) (by omega) (by omega) (by omega) (by omega) (by rw [hl, hh]; exact slow_ED n b0 b1 b2 b3 hn h1 h2 h3 hb)
theorem step_F0 (n b0 b1 b2 b3 : Nat) (hn : 1 ≤ n) (h1 : b1 < 256) (h2 : b2 < 256) (h3 : b3 < 256) (hb : b0 = 240) : dstep n b0 b1 b2 b3 = (((stp n b0 b1 b2 b3).1 : Int), (stp n b0 b1 b2 b3).2) := by
  have hm : most b0 = 4 := by unfold most; (repeat' split) <;> omega
  have hl : lo b0 = 144 := by unfold lo; (repeat' split) <;> omega
  have hh : hi b0 = 191 := by unfold hi; (repeat' split) <;> omega
  exact step_gen n b0 b1 b2 b3 4 hm (by decide) (by decide) hn (by omega) (by omega) (by omega) (by omega) (by omega) (by omega) (by omega) (by rw [hl, hh]; exact slow_F0 n b0 b1 b2 b3 hn h1 h2 h3 hb)
theorem step_F1 (n b0 b1 b2 b3 : Nat) (hn : 1 ≤ n) (h1 : b1 < 256) (h2 : b2 < 256) (h3 : b3 < 256) (hb : 241 ≤ b0 ∧ b0 < 244) : dstep n b0 b1 b2 b3 = (((stp n b0 b1 b2 b3).1 : Int), (stp n b0 b1 b2 b3).2) := by
  have hm : most b0 = 4 := by unfold most; (repeat' split) <;> omega
  have hl : lo b0 = 128 := by unfold lo; (repeat' split) <;> omega
  have hh : hi b0 = 191 := by unfold hi; (repeat' split) <;> omega
  exact step_gen n b0 b1 b2 b3 4 hm (by decide) (by decide) hn (by omega) (by omega) (by omega) (by omega) (by omega) (by omega) (by omega) (by rw [hl, hh]; exact slow_F1 n b0 b1 b2 b3 hn h1 h2 h3 hb)
theorem step_F4 (n b0 b1 b2 b3 : Nat) (hn : 1 ≤ n) (h1 : b1 < 256) (h2 : b2 < 256) (h3 : b3 < 256) (hb : b0 = 244) : dstep n b0 b1 b2 b3 = (((stp n b0 b1 b2 b3).1 : Int), (stp n b0 b1 b2 b3).2) := by
  have hm : most b0 = 4 := by unfold most; (repeat' split) <;> omega
  have hl : lo b0 = 128 := by unfold lo; (repeat' split) <;> omega
  have hh : hi b0 = 143 := by unfold hi; (repeat' split) <;> omega
  exact step_gen n b0 b1 b2 b3 4 hm (by decide) (by decide) hn (by omega) (by omega) (by omega) (by omega) (by omega) (by omega) (by omega) (by rw [hl, hh]; exact slow_F4 n b0 b1 b2 b3 hn h1 h2 h3 hb)
theorem step_ascii (n b0 b1 b2 b3 : Nat) (_hn : 1 ≤ n) (hb : b0 < 128) : dstep n b0 b1 b2 b3 = (((stp n b0 b1 b2 b3).1 : Int), (stp n b0 b1 b2 b3).2) := by
  have e : decodeN n b0 b1 b2 b3 = (b0, 1) := by unfold decodeN; rw [if_pos hb]
  have m1 : may 1 b0 b1 b2 b3 = true := by unfold may; rw [if_pos hb]; rfl
  have o1 : one 1 b0 b1 b2 b3 = b0 := by unfold one; rw [if_pos hb]
  unfold dstep stp
  rw [e, dst_full 4 1 0 n b0 b1 b2 b3 (by omega) m1 (by rw [o1]; omega), o1]
  have hne : ¬ (b0 = 65533) := by omega
  simp only [hne, false_and, if_false]
  apply Prod.ext
  · show (if (b0 : Int) < 0 then (65533 : Int) else b0) = b0
    rw [if_neg (by omega)]
  · rfl
theorem step_none (n b0 b1 b2 b3 : Nat) (_hn : 1 ≤ n) (h0 : b0 < 256) (hb : (128 ≤ b0 ∧ b0 < 194) ∨ 245 ≤ b0) : dstep n b0 b1 b2 b3 = (((stp n b0 b1 b2 b3).1 : Int), (stp n b0 b1 b2 b3).2) := by
  have hm : most b0 = 1 := by unfold most; (repeat' split) <;> omega
  have e : decodeN n b0 b1 b2 b3 = (65533, 1) := by
    unfold decodeN
    repeat' split
    all_goals first | rfl | (exfalso; omega)
  have m1 : may 1 b0 b1 b2 b3 = false := by rw [may_is _ _ _ _ _ (by omega)]; apply decide_eq_false; omega
  unfold dstep stp
  rw [e, dst_stop _ _ _ _ _ _ _ _ m1, bgn_is n b0 b1 b2 b3 1 hm]
  rfl
theorem step_is (n b0 b1 b2 b3 : Nat) (hn : 1 ≤ n) (h0 : b0 < 256) (h1 : b1 < 256) (h2 : b2 < 256) (h3 : b3 < 256) : dstep n b0 b1 b2 b3 = (((stp n b0 b1 b2 b3).1 : Int), (stp n b0 b1 b2 b3).2) := by
  rcases (show b0 < 128 ∨ ((128 ≤ b0 ∧ b0 < 194) ∨ 245 ≤ b0) ∨ (194 ≤ b0 ∧ b0 < 224) ∨ b0 = 224 ∨ ((225 ≤ b0 ∧ b0 < 237) ∨ (238 ≤ b0 ∧ b0 < 240)) ∨ b0 = 237 ∨ b0 = 240 ∨ (241 ≤ b0 ∧ b0 < 244) ∨ b0 = 244 by omega) with h | h | h | h | h | h | h | h | h
  · exact step_ascii n b0 b1 b2 b3 hn h
  · exact step_none n b0 b1 b2 b3 hn h0 h
  · exact step_C2 n b0 b1 b2 b3 hn h1 h2 h3 h
  · exact step_E0 n b0 b1 b2 b3 hn h1 h2 h3 h
  · exact step_E1 n b0 b1 b2 b3 hn h1 h2 h3 h
  · exact step_ED n b0 b1 b2 b3 hn h1 h2 h3 h
  · exact step_F0 n b0 b1 b2 b3 hn h1 h2 h3 h
  · exact step_F1 n b0 b1 b2 b3 hn h1 h2 h3 h
  · exact step_F4 n b0 b1 b2 b3 hn h1 h2 h3 h
end Go.Proofs.YthkigjhbcempbaaDoor.Td
