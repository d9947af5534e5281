/-
  PROVED HERE: what pairs of bytes are as signs, as one function; the contract of text.Narrow's own function. Conditions: as each theorem states.
-/
import Derived.Test.YtifnochpmlllgaaDoorChr
import Derived.Test.YtifnochpmlllgaaDoorBit
import Derived.Test.YtifnochpmlllgaaDoorRef
import Derived.BigQuiet
import Derived.Deep.QuietTactic
namespace Go.Proofs.YtifnochpmlllgaaDoor.Nar
open Go.RowKit Go.Proofs.YtifnochpmlllgaaDoor.Chr

/-- Two bytes as a number. -/
def hf (s : ByteArray) (o i : Nat) : Nat := if o = 1 then byteAt s i * 256 + byteAt s (i + 1) else byteAt s i + byteAt s (i + 1) * 256
theorem hf_lt (s : ByteArray) (o i : Nat) : hf s o i < 65536 := by
  have h1 := byteAt_lt s i
  have h2 := byteAt_lt s (i + 1)
  unfold hf; split <;> omega
/-- From pair j on, f rounds at most, behind out. -/
def nd (s : ByteArray) (o : Nat) : Nat → Nat → List Int → List Int
  | 0, _, out => out
  | f + 1, j, out =>
    if s.size ≤ 2 * j then out
    else if s.size = 2 * j + 1 then out ++ [65533]
    else if hf s o (2 * j) < 55296 ∨ 57343 < hf s o (2 * j) then nd s o f (j + 1) (out ++ [(hf s o (2 * j) : Int)])
    else if hf s o (2 * j) < 56320 ∧ 2 * j + 3 < s.size ∧ 56320 ≤ hf s o (2 * j + 2) ∧ hf s o (2 * j + 2) ≤ 57343 then
      nd s o f (j + 2) (out ++ [65536 + ((hf s o (2 * j) : Int) - 55296) * 1024 + ((hf s o (2 * j + 2) : Int) - 56320)])
    else nd s o f (j + 1) (out ++ [65533])
theorem nd_end (s : ByteArray) (o f j : Nat) (out : List Int) (h : s.size ≤ 2 * j) : nd s o f j out = out := by
  cases f with
  | zero => rfl
  | succ f => rw [nd, if_pos h]
theorem nd_odd (s : ByteArray) (o f j : Nat) (out : List Int) (h : s.size = 2 * j + 1) : nd s o (f + 1) j out = out ++ [65533] := by rw [nd, if_neg (by omega), if_pos h]
theorem nd_one (s : ByteArray) (o f j : Nat) (out : List Int) (h : 2 * j + 1 < s.size) (h2 : hf s o (2 * j) < 55296 ∨ 57343 < hf s o (2 * j)) :
    nd s o (f + 1) j out = nd s o f (j + 1) (out ++ [(hf s o (2 * j) : Int)]) := by rw [nd, if_neg (by omega), if_neg (by omega), if_pos h2]
theorem nd_two (s : ByteArray) (o f j : Nat) (out : List Int) (h : 2 * j + 3 < s.size) (h1 : 55296 ≤ hf s o (2 * j)) (h2 : hf s o (2 * j) < 56320) (h3 : 56320 ≤ hf s o (2 * j + 2)) (h4 : hf s o (2 * j + 2) ≤ 57343) :
    nd s o (f + 1) j out = nd s o f (j + 2) (out ++ [65536 + ((hf s o (2 * j) : Int) - 55296) * 1024 + ((hf s o (2 * j + 2) : Int) - 56320)]) := by
  rw [nd, if_neg (by omega), if_neg (by omega), if_neg (by omega), if_pos ⟨h2, h, h3, h4⟩]
theorem nd_bad (s : ByteArray) (o f j : Nat) (out : List Int) (h : 2 * j + 1 < s.size) (h1 : 55296 ≤ hf s o (2 * j)) (h2 : hf s o (2 * j) ≤ 57343) (h3 : ¬ (hf s o (2 * j) < 56320 ∧ 2 * j + 3 < s.size ∧ 56320 ≤ hf s o (2 * j + 2) ∧ hf s o (2 * j + 2) ≤ 57343)) :
    nd s o (f + 1) j out = nd s o f (j + 1) (out ++ [65533]) := by
  rw [nd, if_neg (by omega), if_neg (by omega), if_neg (by omega), if_neg h3]

theorem join_b (a b : Nat) (ha : a < 256) (hb : b < 256) : bits .or .i64 ((a : Int) * 256) (b : Int) = ((a * 256 + b : Nat) : Int) := by
  have := i64_join 8 (a * 256) b (by omega) hb (by omega) (by omega)
  rw [← this]; simp
theorem join_l (a b : Nat) (ha : a < 256) (hb : b < 256) : bits .or .i64 (a : Int) ((b : Int) * 256) = ((a + b * 256 : Nat) : Int) := by
  have h := i64_or_nat a (b * 256) (by omega) (by omega)
  rw [Nat.or_comm, nat_join 8 (b * 256) a (by omega) ha] at h
  rw [show ((b : Int) * 256) = ((b * 256 : Nat) : Int) by simp, h, Nat.add_comm]

set_option maxRecDepth 100000 in
set_option maxHeartbeats 800000 in
theorem unit_any (s : ByteArray) (o i p q : Nat) (ho : o ≤ 1) (hi : i + 1 < s.size) (hs : s.size ≤ 1000) (W : World) (hc : W.cell? ⟨p, 0, none⟩ = some (.int .i64 o)) (hd : W.cell? ⟨q, 0, none⟩ = some (.string s)) :
    Calls Tryd.prog 75 #[.int .i64 i, .pointer (some ⟨p, 0, none⟩), .pointer (some ⟨q, 0, none⟩)] W fun e w' => e = .returned (.int .i64 (hf s o i : Nat)) ∧ Below W.heap.size W w' := by
  have i1 : (0 : Int) ≤ (i : Int) := by omega
  have i2 : (i : Int) < (s.size : Int) := by omega
  have i3 : (0 : Int) ≤ (i : Int) + 1 := by omega
  have i4 : (i : Int) + 1 < (s.size : Int) := by omega
  have g1 : i < s.size := by omega
  have z1 : IntKind.i64.wrap ((i : Int) + 1) = (i : Int) + 1 := IntWalk.i64_in _ (by omega)
  have b1 : s[i].toNat < 256 := UInt8.toNat_lt _
  have b2 : s[i + 1].toNat < 256 := UInt8.toNat_lt _
  have e1 := byteAt_eq s i (by omega)
  have e2 := byteAt_eq s (i + 1) hi
  rcases (show o = 0 ∨ o = 1 by omega) with rfl | rfl
  · have J := Lib.hid (join_l s[i].toNat s[i + 1].toNat b1 b2)
    have E : Hid (((s[i].toNat + s[i + 1].toNat * 256 : Nat) : Int) = (hf s 0 i : Nat)) := Lib.hid (by rw [hf, if_neg (by decide), e1, e2])
    clear e1 e2
    go_enter Tryd.func75, Tryd.ntmps75
    go_wp2_with fail
    go_quiet (fail)
    go_wp2_with fail
    go_ret
    exact ⟨ret_int (by rw [J.out, E.out]), below_drewN (Below.refl _ _) _⟩
  · have J := Lib.hid (join_b s[i].toNat s[i + 1].toNat b1 b2)
    have E : Hid (((s[i].toNat * 256 + s[i + 1].toNat : Nat) : Int) = (hf s 1 i : Nat)) := Lib.hid (by rw [hf, if_pos rfl, e1, e2])
    clear e1 e2
    go_enter Tryd.func75, Tryd.ntmps75
    go_wp2_with fail
    go_quiet (fail)
    go_wp2_with fail
    go_ret
    exact ⟨ret_int (by rw [J.out, E.out]), below_drewN (Below.refl _ _) _⟩
end Go.Proofs.YtifnochpmlllgaaDoor.Nar
