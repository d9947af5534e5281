/-
  PROVED HERE: the contract of lex's Lex. Conditions: as each theorem states.
-/
import Derived.Test.YtpnjlmpamincoaaDoorLexD
import Derived.Test.YtpnjlmpamincoaaDoorTok
import Derived.Test.YtpnjlmpamincoaaDoorErrB
namespace Go.Proofs.YtpnjlmpamincoaaDoor.Lex
open Go.RowKit
def tks (s : ByteArray) (l : List (Nat × Nat)) : List Tk := l.map fun p => ⟨s.extract p.1 p.2, p.1⟩
theorem tks_len (s : ByteArray) (l : List (Nat × Nat)) : (tks s l).length = l.length := by simp [tks]
theorem tks_snoc (s : ByteArray) (l : List (Nat × Nat)) (a b : Nat) : tks s l ++ [⟨s.extract a b, a⟩] = tks s (l ++ [(a, b)]) := by simp [tks]
def ro (s : ByteArray) : R := lx .plain 0 (lst s)
def rl (s : ByteArray) : List Tk := if 3000 < s.size then [] else match ro s with | .ok l => tks s l | .bad _ => []
def rc (s : ByteArray) : Int := if 3000 < s.size then 4 else match ro s with | .ok _ => 0 | .bad _ => 3
def rp (s : ByteArray) : Int := if 3000 < s.size then -1 else match ro s with | .ok _ => -1 | .bad i => (i : Int)
def PX (s : ByteArray) (W : World) (e : Ending) (w' : World) : Prop := ∃ v x, e = .returned (.tuple #[v, x]) ∧ Tks w' v (rl s) ∧ Err.ErrIs w' x (rc s) (rp s) ∧ Below W.heap.size W w'
def TL (s : ByteArray) (wr : World) (B : Nat) (v : Value) (p : List (Nat × Nat)) : Prop := (∃ a c, v = .slice a p.length c) ∧ Hid (OwnT wr B v (tks s p))
def PR (s : ByteArray) (W : World) (v i : Value) (wr : World) : Prop :=
  ∃ (k : Nat) (p : List (Nat × Nat)), k ≤ s.size ∧ p.length ≤ k ∧ i = .int .i64 k ∧ TL s wr W.heap.size v p ∧ Hid (ro s = R.app p (lx .plain k ((lst s).drop k))) ∧ Hid (Below W.heap.size W wr)
theorem tl_new {s : ByteArray} {wr : World} {B : Nat} {v : Value} {p : List (Nat × Nat)} (h : OwnT wr B v (tks s p)) : TL s wr B v p := by
  obtain ⟨a, c, e⟩ := h.len
  rw [tks_len] at e
  exact ⟨⟨a, c, e⟩, Lib.hid h⟩
theorem tks_none (w : World) : Tks w (.slice none 0 0) [] := ⟨none, 0, rfl, Nat.le_refl _, fun j hj => absurd hj (Nat.not_lt_zero j)⟩
theorem px_bad (s : ByteArray) (hs : ¬ 3000 < s.size) (W w' : World) (i : Nat) (x : Value) (hr : ro s = .bad i) (hx : Err.ErrIs w' x 3 i) (hb : Below W.heap.size W w') : PX s W (.returned (.tuple #[.slice none 0 0, x])) w' := by
  refine ⟨_, _, rfl, ?_, ?_, hb⟩
  · unfold rl
    rw [if_neg hs, hr]
    exact tks_none _
  · unfold rc rp
    rw [if_neg hs, if_neg hs, hr]
    exact hx
theorem px_ok (s : ByteArray) (hs : ¬ 3000 < s.size) (W w' : World) (v : Value) (p : List (Nat × Nat)) (hr : ro s = .ok p) (hv : Tks w' v (tks s p)) (hb : Below W.heap.size W w') : PX s W (.returned (.tuple #[v, .nilIface])) w' := by
  refine ⟨_, _, rfl, ?_, ?_, hb⟩
  · unfold rl
    rw [if_neg hs, hr]
    exact hv
  · unfold rc rp
    rw [if_neg hs, if_neg hs, hr]
    exact .inl ⟨rfl, rfl, rfl⟩
theorem px_long (s : ByteArray) (hs : 3000 < s.size) (W w' : World) (hb : Below W.heap.size W w') : PX s W (.returned (.tuple #[.slice none 0 0, .iface 24 (.int .i64 4)])) w' := by
  refine ⟨_, _, rfl, ?_, ?_, hb⟩
  · unfold rl
    rw [if_pos hs]
    exact tks_none _
  · unfold rc rp
    rw [if_pos hs, if_pos hs]
    exact .inr (.inl ⟨rfl, rfl⟩)
theorem blk_of (c : UInt8) : blk c = decide (c.toNat = 32 ∨ c.toNat = 10 ∨ c.toNat = 9) := of_all (p := blk) (q := fun c => decide (c.toNat = 32 ∨ c.toNat = 10 ∨ c.toNat = 9)) (by decide +kernel) c
end Go.Proofs.YtpnjlmpamincoaaDoor.Lex
