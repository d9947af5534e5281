/-
  PROVED HERE: what pattern of half bytes a text is, as one function. Conditions: as each theorem states.
-/
import Derived.Test.YtgkmjkjcdjkffaaDoorErrB
import Derived.Test.YtgkmjkjcdjkffaaDoorOwn
import Derived.Test.YtgkmjkjcdjkffaaDoorShelf
namespace Go.Proofs.YtgkmjkjcdjkffaaDoor.Fd
open Go.RowKit

/-- A byte as half a byte: -1: any; -2: none. -/
def md (c : Nat) : Int := if c = 63 then -1 else if 48 ≤ c ∧ c ≤ 57 then (c : Int) - 48 else if 97 ≤ c ∧ c ≤ 102 then (c : Int) - 97 + 10 else -2
def mr : List UInt8 → List Int → Option (List Int)
  | [], out => if out.length = 0 ∨ out.length % 2 = 1 then none else some out
  | c :: cs, out => if c.toNat = 32 ∧ out.length % 2 = 0 then mr cs out else if md c.toNat = -2 then none else mr cs (out ++ [md c.toNat])
def mrs (s : ByteArray) (k : Nat) (out : List Int) : Option (List Int) := mr (s.data.toList.drop k) out
theorem mrs_step (s : ByteArray) (k : Nat) (out : List Int) (h : k < s.size) : mrs s k out = if s[k].toNat = 32 ∧ out.length % 2 = 0 then mrs s (k + 1) out else if md s[k].toNat = -2 then none else mrs s (k + 1) (out ++ [md s[k].toNat]) := by
  have e : s.data.toList.length = s.size := rfl
  unfold mrs
  rw [List.drop_eq_getElem_cons (by omega), mr]
  rfl
theorem mrs_end (s : ByteArray) (k : Nat) (out : List Int) (h : s.size ≤ k) : mrs s k out = if out.length = 0 ∨ out.length % 2 = 1 then none else some out := by
  have e : s.data.toList.length = s.size := rfl
  unfold mrs
  rw [List.drop_eq_nil_of_le (by omega), mr]
theorem mr_len : ∀ (cs : List UInt8) (out l : List Int), mr cs out = some l → l.length ≤ out.length + cs.length
  | [], out, l, h => by
    rw [mr] at h
    split at h
    · cases h
    · injection h with h; subst h; simp
  | c :: cs, out, l, h => by
    rw [mr] at h
    split at h
    · have := mr_len cs out l h; simp; omega
    · split at h
      · cases h
      · have := mr_len cs _ l h; simp at this ⊢; omega
theorem mr_even : ∀ (cs : List UInt8) (out l : List Int), mr cs out = some l → l.length % 2 = 0
  | [], out, l, h => by
    rw [mr] at h
    split at h
    · cases h
    · injection h with h; subst h; omega
  | c :: cs, out, l, h => by
    rw [mr] at h
    split at h
    · exact mr_even cs out l h
    · split at h
      · cases h
      · exact mr_even cs _ l h
def zl (Z : Option (List Int)) : List Int := match Z with | none => [] | some l => l
def zc (Z : Option (List Int)) : Int := match Z with | none => 3 | some _ => 0
theorem ints_nil (w : World) : Ints w (.slice none 0 0) [] := ⟨none, 0, rfl, fun j hj => absurd hj (Nat.not_lt_zero j)⟩
def RP (Z : Option (List Int)) (W : World) (e : Ending) (w' : World) : Prop := ∃ v x, e = .returned (.tuple #[v, x]) ∧ Ints w' v (zl Z) ∧ Err.ErrIs w' x (zc Z) (-1) ∧ Below W.heap.size W w'
def DP (Z : Option (List Int)) (W : World) (e : Ending) (w' : World) : Prop := ∃ v, e = .returned (.tuple #[v, .int .i64 (zc Z)]) ∧ Ints w' v (zl Z) ∧ Below W.heap.size W w'
def Rl (s : ByteArray) (Z : Option (List Int)) (W : World) (v i : Value) (wr : World) : Prop := ∃ (k : Nat) (out : List Int), k ≤ s.size ∧ i = .int .i64 k ∧ Hid (mrs s k out = Z) ∧ Hid (out.length ≤ k) ∧ (∃ a cap, v = .slice a out.length cap) ∧ Hid (Own wr W.heap.size 3 v (i64s out)) ∧ Hid (Below W.heap.size W wr)
theorem idx_all : ∀ c : Fin 256, Lib.indexByte [48, 49, 50, 51, 52, 53, 54, 55, 56, 57, 97, 98, 99, 100, 101, 102, 63] (UInt8.ofNat c.val) = if md c.val = -1 then 16 else if md c.val = -2 then -1 else md c.val := by decide +kernel
theorem md_bounds (c : Nat) : -2 ≤ md c ∧ md c ≤ 15 := by unfold md; omega
end Go.Proofs.YtgkmjkjcdjkffaaDoor.Fd
