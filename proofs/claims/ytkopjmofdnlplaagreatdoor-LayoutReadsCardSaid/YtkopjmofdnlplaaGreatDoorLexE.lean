/-
  PROVED HERE: the contract of lex's next; the contract of lex's next, at marks; the contract of lex's Lex. Conditions: as each theorem states.
-/
import Derived.Test.YtkopjmofdnlplaaGreatDoorLexB
import Derived.Deep.CutBlock
import Derived.Deep.DeepCutAuto
import Derived.Test.YtkopjmofdnlplaaGreatDoorTok
import Derived.Test.YtkopjmofdnlplaaGreatDoorErrB
namespace Go.Proofs.YtkopjmofdnlplaaGreatDoor.Lex
open Go.RowKit
def mkl : List (List UInt8) := [[61, 61], [33, 61], [123], [125], [91], [93], [40], [41], [59], [44], [61], [43], [45], [42], [38], [124], [60], [62]]
def mks (j : Nat) : ByteArray := ⟨(mkl.getD j []).toArray⟩
def hp (c : UInt8) (r : List UInt8) (j : Nat) : Bool := Lib.hasPrefix (c :: r) (mkl.getD j [])
theorem hp_two (c : UInt8) (r : List UInt8) (a : UInt8) : Lib.hasPrefix (c :: r) [a, 61] = (c == a && r.head? == some 61) := by
  unfold Lib.hasPrefix
  cases r with
  | nil => simp [List.isPrefixOf]
  | cons d r => simp [List.isPrefixOf, Bool.beq_comm]
theorem hp_one (c : UInt8) (r : List UInt8) (a : UInt8) : Lib.hasPrefix (c :: r) [a] = (c == a) := by
  unfold Lib.hasPrefix
  simp [List.isPrefixOf, Bool.beq_comm]
theorem mk_of (c : UInt8) (r : List UInt8) (h0 : hp c r 0 = false) (h1 : hp c r 1 = false) : mk c r = if sgl c = true then 1 else 0 := by
  have e0 : hp c r 0 = (c == 61 && r.head? == some 61) := hp_two c r 61
  have e1 : hp c r 1 = (c == 33 && r.head? == some 61) := hp_two c r 33
  rw [e0] at h0
  rw [e1] at h1
  unfold mk
  rw [if_neg]
  intro h
  rw [Bool.and_or_distrib_right, h0, h1] at h
  cases h
theorem hp_many (c : UInt8) (r : List UInt8) (k : Nat) (h2 : 2 ≤ k) (h : k < 18) (hk : hp c r k = true) : sgl c = true ∧ (mks k).size = 1 := by
  rcases (show k = 0 ∨ k = 1 ∨ k = 2 ∨ k = 3 ∨ k = 4 ∨ k = 5 ∨ k = 6 ∨ k = 7 ∨ k = 8 ∨ k = 9 ∨ k = 10 ∨ k = 11 ∨ k = 12 ∨ k = 13 ∨ k = 14 ∨ k = 15 ∨ k = 16 ∨ k = 17 by omega) with rfl | rfl | rfl | rfl | rfl | rfl | rfl | rfl | rfl | rfl | rfl | rfl | rfl | rfl | rfl | rfl | rfl | rfl
  · omega
  · omega
  · obtain rfl : c = 123 := by simpa [hp_one] using (show Lib.hasPrefix (c :: r) [123] = true from hk)
    exact ⟨by decide, rfl⟩
  · obtain rfl : c = 125 := by simpa [hp_one] using (show Lib.hasPrefix (c :: r) [125] = true from hk)
    exact ⟨by decide, rfl⟩
  · obtain rfl : c = 91 := by simpa [hp_one] using (show Lib.hasPrefix (c :: r) [91] = true from hk)
    exact ⟨by decide, rfl⟩
  · obtain rfl : c = 93 := by simpa [hp_one] using (show Lib.hasPrefix (c :: r) [93] = true from hk)
    exact ⟨by decide, rfl⟩
  · obtain rfl : c = 40 := by simpa [hp_one] using (show Lib.hasPrefix (c :: r) [40] = true from hk)
    exact ⟨by decide, rfl⟩
  · obtain rfl : c = 41 := by simpa [hp_one] using (show Lib.hasPrefix (c :: r) [41] = true from hk)
    exact ⟨by decide, rfl⟩
  · obtain rfl : c = 59 := by simpa [hp_one] using (show Lib.hasPrefix (c :: r) [59] = true from hk)
    exact ⟨by decide, rfl⟩
  · obtain rfl : c = 44 := by simpa [hp_one] using (show Lib.hasPrefix (c :: r) [44] = true from hk)
    exact ⟨by decide, rfl⟩
  · obtain rfl : c = 61 := by simpa [hp_one] using (show Lib.hasPrefix (c :: r) [61] = true from hk)
    exact ⟨by decide, rfl⟩
  · obtain rfl : c = 43 := by simpa [hp_one] using (show Lib.hasPrefix (c :: r) [43] = true from hk)
    exact ⟨by decide, rfl⟩
  · obtain rfl : c = 45 := by simpa [hp_one] using (show Lib.hasPrefix (c :: r) [45] = true from hk)
    exact ⟨by decide, rfl⟩
  · obtain rfl : c = 42 := by simpa [hp_one] using (show Lib.hasPrefix (c :: r) [42] = true from hk)
    exact ⟨by decide, rfl⟩
  · obtain rfl : c = 38 := by simpa [hp_one] using (show Lib.hasPrefix (c :: r) [38] = true from hk)
    exact ⟨by decide, rfl⟩
  · obtain rfl : c = 124 := by simpa [hp_one] using (show Lib.hasPrefix (c :: r) [124] = true from hk)
    exact ⟨by decide, rfl⟩
  · obtain rfl : c = 60 := by simpa [hp_one] using (show Lib.hasPrefix (c :: r) [60] = true from hk)
    exact ⟨by decide, rfl⟩
  · obtain rfl : c = 62 := by simpa [hp_one] using (show Lib.hasPrefix (c :: r) [62] = true from hk)
    exact ⟨by decide, rfl⟩
theorem mk_hit (c : UInt8) (r : List UInt8) (k : Nat) (h : k < 18) (hno : ∀ j, j < k → hp c r j = false) (hk : hp c r k = true) : mk c r = (mks k).size := by
  have e0 : hp c r 0 = (c == 61 && r.head? == some 61) := hp_two c r 61
  have e1 : hp c r 1 = (c == 33 && r.head? == some 61) := hp_two c r 33
  rcases (show k = 0 ∨ k = 1 ∨ 2 ≤ k by omega) with rfl | rfl | h2
  · unfold mk
    rw [if_pos (by rw [Bool.and_or_distrib_right, ← e0, hk]; rfl)]
    rfl
  · unfold mk
    rw [if_pos (by rw [Bool.and_or_distrib_right, ← e1, hk, Bool.or_true])]
    rfl
  · obtain ⟨a, b⟩ := hp_many c r k h2 h hk
    rw [mk_of c r (hno 0 (by omega)) (hno 1 (by omega)), if_pos a, b]
theorem mk_none (c : UInt8) (r : List UInt8) (hno : ∀ j, j < 18 → hp c r j = false) : mk c r = 0 := by
  rw [mk_of c r (hno 0 (by omega)) (hno 1 (by omega)), if_neg]
  intro h
  unfold sgl at h
  simp only [List.contains_eq_mem, List.mem_cons, List.not_mem_nil, or_false, decide_eq_true_eq] at h
  rcases h with rfl | rfl | rfl | rfl | rfl | rfl | rfl | rfl | rfl | rfl | rfl | rfl | rfl | rfl | rfl | rfl
  · exact absurd ((hp_one 123 r 123).symm.trans (hno 2 (by omega))) (by simp)
  · exact absurd ((hp_one 125 r 125).symm.trans (hno 3 (by omega))) (by simp)
  · exact absurd ((hp_one 91 r 91).symm.trans (hno 4 (by omega))) (by simp)
  · exact absurd ((hp_one 93 r 93).symm.trans (hno 5 (by omega))) (by simp)
  · exact absurd ((hp_one 40 r 40).symm.trans (hno 6 (by omega))) (by simp)
  · exact absurd ((hp_one 41 r 41).symm.trans (hno 7 (by omega))) (by simp)
  · exact absurd ((hp_one 59 r 59).symm.trans (hno 8 (by omega))) (by simp)
  · exact absurd ((hp_one 44 r 44).symm.trans (hno 9 (by omega))) (by simp)
  · exact absurd ((hp_one 61 r 61).symm.trans (hno 10 (by omega))) (by simp)
  · exact absurd ((hp_one 43 r 43).symm.trans (hno 11 (by omega))) (by simp)
  · exact absurd ((hp_one 45 r 45).symm.trans (hno 12 (by omega))) (by simp)
  · exact absurd ((hp_one 42 r 42).symm.trans (hno 13 (by omega))) (by simp)
  · exact absurd ((hp_one 38 r 38).symm.trans (hno 14 (by omega))) (by simp)
  · exact absurd ((hp_one 124 r 124).symm.trans (hno 15 (by omega))) (by simp)
  · exact absurd ((hp_one 60 r 60).symm.trans (hno 16 (by omega))) (by simp)
  · exact absurd ((hp_one 62 r 62).symm.trans (hno 17 (by omega))) (by simp)
theorem nx_word (c : UInt8) (r : List UInt8) (h : wch c = true) : nx (c :: r) = ((c :: r).takeWhile wch).length := by
  unfold nx
  simp only
  rw [if_pos h]
theorem nx_mark (c : UInt8) (r : List UInt8) (h : wch c = false) : nx (c :: r) = mk c r := by
  unfold nx
  simp only
  rw [if_neg (by rw [h]; decide)]
theorem tw_next (s : ByteArray) (k : Nat) (h : k < s.size) (hw : wch s[k] = true) : (((lst s).drop k).takeWhile wch).length = 1 + (((lst s).drop (k + 1)).takeWhile wch).length := by
  rw [lst_at s k h, List.takeWhile_cons, if_pos hw, List.length_cons]
  omega
theorem tw_end (s : ByteArray) (k : Nat) (h : k < s.size) (hw : wch s[k] = false) : (((lst s).drop k).takeWhile wch).length = 0 := by
  rw [lst_at s k h, List.takeWhile_cons, if_neg (by rw [hw]; decide)]
  rfl
theorem tw_out (s : ByteArray) (k : Nat) (h : s.size ≤ k) : (((lst s).drop k).takeWhile wch).length = 0 := by
  rw [List.drop_of_length_le (by rw [lst_len]; exact h)]
  rfl
end Go.Proofs.YtkopjmofdnlplaaGreatDoor.Lex
namespace Go.Proofs.YtkopjmofdnlplaaGreatDoor.Lex
open Go.RowKit
end Go.Proofs.YtkopjmofdnlplaaGreatDoor.Lex
namespace Go.Proofs.YtkopjmofdnlplaaGreatDoor.Lex
open Go.RowKit
def tks (s : ByteArray) (l : List (Nat × Nat)) : List Tk := l.map fun p => ⟨s.extract p.1 p.2, p.1⟩
theorem tks_len (s : ByteArray) (l : List (Nat × Nat)) : (tks s l).length = l.length := by simp [tks]
theorem tks_snoc (s : ByteArray) (l : List (Nat × Nat)) (a b : Nat) : tks s l ++ [⟨s.extract a b, a⟩] = tks s (l ++ [(a, b)]) := by simp [tks]
def ro (s : ByteArray) : R := lx .plain 0 (lst s)
def rl (s : ByteArray) : List Tk := if 3000 < s.size then [] else match ro s with | .ok l => tks s l | .bad _ => []
def rc (s : ByteArray) : Int := if 3000 < s.size then 4 else match ro s with | .ok _ => 0 | .bad _ => 3
def rp (s : ByteArray) : Int := if 3000 < s.size then -1 else match ro s with | .ok _ => -1 | .bad i => (i : Int)
def PX (s : ByteArray) (W : World) (e : Ending) (w' : World) : Prop := ∃ v x, e = .returned (.tuple #[v, x]) ∧ Tks w' v (rl s) ∧ Err.ErrIs w' x (rc s) (rp s) ∧ Below W.heap.size W w' ∧ (rc s = 0 → x = .nilIface)
def TL (s : ByteArray) (wr : World) (B : Nat) (v : Value) (p : List (Nat × Nat)) : Prop := (∃ a c, v = .slice a p.length c) ∧ Hid (OwnT wr B v (tks s p))
def PR (s : ByteArray) (W : World) (v i : Value) (wr : World) : Prop :=
  ∃ (k : Nat) (p : List (Nat × Nat)), k ≤ s.size ∧ p.length ≤ k ∧ i = .int .i64 k ∧ TL s wr W.heap.size v p ∧ Hid (ro s = R.app p (lx .plain k ((lst s).drop k))) ∧ Hid (Below W.heap.size W wr)
theorem tl_new {s : ByteArray} {wr : World} {B : Nat} {v : Value} {p : List (Nat × Nat)} (h : OwnT wr B v (tks s p)) : TL s wr B v p := by
  obtain ⟨a, c, e⟩ := h.len
  rw [tks_len] at e
  exact ⟨⟨a, c, e⟩, Lib.hid h⟩
theorem tks_none (w : World) : Tks w (.slice none 0 0) [] := ⟨none, 0, rfl, Nat.le_refl _, fun j hj => absurd hj (Nat.not_lt_zero j)⟩
theorem px_bad (s : ByteArray) (hs : ¬ 3000 < s.size) (W w' : World) (i : Nat) (x : Value) (hr : ro s = .bad i) (hx : Err.ErrIs w' x 3 i) (hb : Below W.heap.size W w') : PX s W (.returned (.tuple #[.slice none 0 0, x])) w' := by
  refine ⟨_, _, rfl, ?_, ?_, hb, fun h0 => ?_⟩
  · unfold rl
    rw [if_neg hs, hr]
    exact tks_none _
  · unfold rc rp
    rw [if_neg hs, if_neg hs, hr]
    exact hx
  · unfold rc at h0
    rw [if_neg hs, hr] at h0
    exact absurd h0 (show ¬ (3 : Int) = 0 by decide)
theorem px_ok (s : ByteArray) (hs : ¬ 3000 < s.size) (W w' : World) (v : Value) (p : List (Nat × Nat)) (hr : ro s = .ok p) (hv : Tks w' v (tks s p)) (hb : Below W.heap.size W w') : PX s W (.returned (.tuple #[v, .nilIface])) w' := by
  refine ⟨_, _, rfl, ?_, ?_, hb, fun _ => rfl⟩
  · unfold rl
    rw [if_neg hs, hr]
    exact hv
  · unfold rc rp
    rw [if_neg hs, if_neg hs, hr]
    exact .inl ⟨rfl, rfl, rfl⟩
theorem px_long (s : ByteArray) (hs : 3000 < s.size) (W w' : World) (hb : Below W.heap.size W w') : PX s W (.returned (.tuple #[.slice none 0 0, .iface 28 (.int .i64 4)])) w' := by
  refine ⟨_, _, rfl, ?_, ?_, hb, fun h0 => ?_⟩
  · unfold rl
    rw [if_pos hs]
    exact tks_none _
  · unfold rc rp
    rw [if_pos hs, if_pos hs]
    exact .inr (.inl ⟨rfl, rfl⟩)
  · unfold rc at h0
    rw [if_pos hs] at h0
    exact absurd h0 (by decide)
theorem blk_of (c : UInt8) : blk c = decide (c.toNat = 32 ∨ c.toNat = 10 ∨ c.toNat = 9) := of_all (p := blk) (q := fun c => decide (c.toNat = 32 ∨ c.toNat = 10 ∨ c.toNat = 9)) (by decide +kernel) c
end Go.Proofs.YtkopjmofdnlplaaGreatDoor.Lex
