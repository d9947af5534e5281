/-
  PROVED HERE: what bytes are that digits are, as one function, and the contract of digits.Unhex. Conditions: as each theorem states.
-/
import Derived.Test.YtgkmjkjcdjkffaaDoorTac
import Derived.Test.YtgkmjkjcdjkffaaDoorDigA
import Derived.Test.YtgkmjkjcdjkffaaDoorErrB
namespace Go.Proofs.YtgkmjkjcdjkffaaDoor.Dig
open Go.RowKit

/-- What comes of it: the place of what may not stand there, or the bytes. -/
inductive Un | bad (p : Nat) | good (l : List UInt8)
def Un.str : Un → ByteArray | .bad _ => ⟨#[]⟩ | .good l => ⟨l.toArray⟩
def Un.err : Un → Int | .bad _ => 3 | .good _ => 0
def Un.at_ : Un → Int | .bad p => p | .good _ => -1
/-- From place i on, f rounds at most, behind the bytes out. -/
def uh (s : ByteArray) : Nat → Nat → List UInt8 → Un
  | 0, _, out => .good out
  | f + 1, i, out =>
    if s.size ≤ i then .good out
    else if byteAt s i = 32 then uh s f (i + 1) out
    else if dig (byteAt s i) < 0 then .bad i
    else if s.size ≤ i + 1 ∨ dig (byteAt s (i + 1)) < 0 then .bad (i + 1)
    else uh s f (i + 2) (out ++ [UInt8.ofNat (dig (byteAt s i) * 16 + dig (byteAt s (i + 1))).toNat])
theorem uh_end (s : ByteArray) (f i : Nat) (out : List UInt8) (h : s.size ≤ i) : uh s f i out = .good out := by
  cases f with
  | zero => rfl
  | succ f => rw [uh, if_pos h]
theorem uh_blank (s : ByteArray) (f i : Nat) (out : List UInt8) (h : i < s.size) (h2 : byteAt s i = 32) : uh s (f + 1) i out = uh s f (i + 1) out := by
  rw [uh, if_neg (by omega), if_pos h2]
theorem uh_bad1 (s : ByteArray) (f i : Nat) (out : List UInt8) (h : i < s.size) (h2 : byteAt s i ≠ 32) (h3 : dig (byteAt s i) < 0) : uh s (f + 1) i out = .bad i := by
  rw [uh, if_neg (by omega), if_neg h2, if_pos h3]
theorem uh_bad2 (s : ByteArray) (f i : Nat) (out : List UInt8) (h : i < s.size) (h2 : byteAt s i ≠ 32) (h3 : ¬ dig (byteAt s i) < 0) (h4 : s.size ≤ i + 1 ∨ dig (byteAt s (i + 1)) < 0) : uh s (f + 1) i out = .bad (i + 1) := by
  rw [uh, if_neg (by omega), if_neg h2, if_neg h3, if_pos h4]
theorem uh_go (s : ByteArray) (f i : Nat) (out : List UInt8) (_ : i < s.size) (h2 : byteAt s i ≠ 32) (h3 : ¬ dig (byteAt s i) < 0) (h4 : i + 1 < s.size) (h5 : ¬ dig (byteAt s (i + 1)) < 0) :
    uh s (f + 1) i out = uh s f (i + 2) (out ++ [UInt8.ofNat (dig (byteAt s i) * 16 + dig (byteAt s (i + 1))).toNat]) := by
  rw [uh, if_neg (by omega), if_neg h2, if_neg h3, if_neg (by omega)]
theorem dig_bounds (c : Int) : -1 ≤ dig c ∧ dig c ≤ 15 := by unfold dig; omega
theorem dig_or_all : ∀ a b : Fin 16, (bits .or .i64 (16 * ((a.val : Nat) : Int)) ((b.val : Nat) : Int)) = 16 * ((a.val : Nat) : Int) + ((b.val : Nat) : Int) := by decide +kernel
theorem dig_or (a b : Int) (ha : 0 ≤ a ∧ a ≤ 15) (hb : 0 ≤ b ∧ b ≤ 15) : bits .or .i64 (16 * a) b = 16 * a + b := by
  obtain ⟨a', rfl⟩ := Int.eq_ofNat_of_zero_le ha.1
  obtain ⟨b', rfl⟩ := Int.eq_ofNat_of_zero_le hb.1
  exact dig_or_all ⟨a', by omega⟩ ⟨b', by omega⟩

theorem digit_byte (a b : Int) (ha : 0 ≤ a ∧ a ≤ 15) (hb : 0 ≤ b ∧ b ≤ 15) : bits .or .i64 (a * 16) b % 256 = ((UInt8.ofNat (a * 16 + b).toNat).toNat : Int) := by
  rw [Int.mul_comm a 16, dig_or a b ha hb, UInt8.toNat_ofNat']; omega
def UhPost (Z : Un) (W : World) (e : Ending) (w' : World) : Prop := ∃ v, e = .returned (.tuple #[.string Z.str, v]) ∧ (Z.err = 0 → v = .nilIface) ∧ Err.ErrIs w' v Z.err Z.at_ ∧ Below W.heap.size W w'

set_option maxRecDepth 100000 in
set_option maxHeartbeats 1000000 in
theorem unhex_any (s : ByteArray) (hs : s.size ≤ 1000) (W : World) :
    Calls Tryd.prog 29 #[.string s] W (UhPost (uh s s.size 0 []) W) := by
  go_enter Tryd.func29, Tryd.ntmps29
  go_wp2_with fail
  go_loopw [4, 5] (fun v i wr => ∃ (k f : Nat) (out : List UInt8), k ≤ s.size + 1 ∧ i = .int .i64 k ∧ s.size ≤ k + f ∧ Hid (uh s f k out = uh s s.size 0 []) ∧ Hid (out.length ≤ k) ∧ (∃ a cap, v = .slice a out.length cap) ∧ Hid (Own wr W.heap.size 5 v (u8s out)) ∧ Below W.heap.size W wr) (fun _ i _ => s.size + 1 - (intOf i).toNat)
  case atStart => exact ⟨0, s.size, [], by omega, rfl, by omega, Lib.hid rfl, Lib.hid (Nat.le_refl _), ⟨_, _, rfl⟩, Lib.hid (own_nil _ _ _), Below.refl _ _⟩
  case round =>
    obtain ⟨k, f, out, hk, rfl, hf, hu, hol, ⟨a, cap, rfl⟩, ho, hB⟩ := hrel
    have hBH := Lib.hid hB
    clear hB
    generalize uh s s.size 0 [] = Z at *
    by_cases hlt : k < s.size
    · obtain ⟨f', rfl⟩ : ∃ f', f = f' + 1 := ⟨f - 1, by omega⟩
      have hb := Lib.hid (byteAt_eq s k hlt)
      have hb3 : s[k].toNat < 256 := UInt8.toNat_lt _
      by_cases h32 : byteAt s k = 32
      · have e1 : ((s[k].toNat : Int) == 32) = true := by rw [hb.out, h32]; rfl
        have hu2 := Lib.hid ((uh_blank s f' k out hlt h32).symm.trans hu.out)
        clear h32
        go_wp2_with fail
        go_roundw
        case rel => exact ⟨k + 1, f', out, by omega, by go_num, by omega, hu2, Lib.hid (by have := hol.out; omega), ⟨_, _, rfl⟩, ho, hBH.out⟩
        case measure => simp [intOf]; omega
      · have e1 : ((s[k].toNat : Int) == 32) = false := by rw [hb.out, beq_eq_false_iff_ne]; omega
        have d1 := dig_bounds (s[k].toNat : Int)
        by_cases h4 : k + 1 < s.size
        · have i1 : (0 : Int) ≤ (k : Int) + 1 := by omega
          have i2 : (k : Int) + 1 < (s.size : Int) := by omega
          have hb' := Lib.hid (byteAt_eq s (k + 1) h4)
          have hb4 : s[k + 1].toNat < 256 := UInt8.toNat_lt _
          have d2 := dig_bounds (s[k + 1].toNat : Int)
          by_cases h3 : dig (byteAt s k) < 0
          · have hu2 := Lib.hid ((uh_bad1 s f' k out hlt h32 h3).symm.trans hu.out)
            have h3' : dig (s[k].toNat : Int) < 0 := by rw [hb.out]; exact h3
            clear h3 h32
            go_wp2_with fail
            refine (digit_any _ (by omega) (by omega) _).mono ?_; rintro e w' ⟨rfl, rfl⟩
            go_wp2_with fail
            refine (digit_any _ (by omega) (by omega) _).mono ?_; rintro e w' ⟨rfl, rfl⟩
            go_wp2_with fail
            go_ret2
            rw [← hu2.out]
            exact ⟨_, rfl, fun h => absurd h (by simp [Un.err]), .inr (.inr ⟨wr.heap.size, 0, rfl, by simp [Un.err], by simp [Un.at_]⟩), hBH.out.alloc hBH.out.size _⟩
          · have h3' : ¬ dig (s[k].toNat : Int) < 0 := by rw [hb.out]; exact h3
            by_cases h5 : dig (byteAt s (k + 1)) < 0
            · have hu2 := Lib.hid ((uh_bad2 s f' k out hlt h32 h3 (.inr h5)).symm.trans hu.out)
              have h5' : dig (s[k + 1].toNat : Int) < 0 := by rw [hb'.out]; exact h5
              clear h3 h32 h5
              go_wp2_with fail
              refine (digit_any _ (by omega) (by omega) _).mono ?_; rintro e w' ⟨rfl, rfl⟩
              go_wp2_with fail
              refine (digit_any _ (by omega) (by omega) _).mono ?_; rintro e w' ⟨rfl, rfl⟩
              go_wp2_with fail
              go_ret2
              rw [← hu2.out]
              exact ⟨_, rfl, fun h => absurd h (by simp [Un.err]), .inr (.inr ⟨wr.heap.size, 0, rfl, by simp [Un.err], by simp [Un.at_]⟩), hBH.out.alloc hBH.out.size _⟩
            · have hu2 := Lib.hid ((uh_go s f' k out hlt h32 h3 h4 h5).symm.trans hu.out)
              have h5' : ¬ dig (s[k + 1].toNat : Int) < 0 := by rw [hb'.out]; exact h5
              clear h3 h32 h5
              go_wp2_with fail
              refine (digit_any _ (by omega) (by omega) _).mono ?_; rintro e w' ⟨rfl, rfl⟩
              go_wp2_with fail
              refine (digit_any _ (by omega) (by omega) _).mono ?_; rintro e w' ⟨rfl, rfl⟩
              have HV := Lib.hid (digit_byte (dig (s[k].toNat : Int)) (dig (s[k + 1].toNat : Int)) (by omega) (by omega))
              rw [← hb.out, ← hb'.out] at hu2
              have hol' := hol.out
              go_wp2_with (at_builtin; refine own_append1 rfl _ _ 87 rfl W.heap.size 5 (.int .u8 0) 1 Tryd.underlying87 (by kernel_rfl) rfl _ _ rfl (ho.out.alloc _) _ 1 _ rfl (new_cell wr _ _) rfl (by rw [u8s_len]; omega) (by rw [u8s_len]; omega) (le_alloc hBH.out.size _) ?_; intro v1 w1 ho1 hg1 hb1 hat1)
              rw [HV.out, u8s_snoc] at ho1
              go_roundw
              case rel =>
                refine ⟨k + 2, f', _, by omega, by go_num, by omega, hu2, Lib.hid (by simp; omega), ?_, Lib.hid ho1, below_append hBH.out _ hBH.out.size hb1⟩
                obtain ⟨a', c', e'⟩ := ho1.len
                rw [u8s_len] at e'
                exact ⟨a', c', e'⟩
              case measure => simp [intOf]; omega
        · have i2 : ¬ (k : Int) + 1 < (s.size : Int) := by omega
          by_cases h3 : dig (byteAt s k) < 0
          · have hu2 := Lib.hid ((uh_bad1 s f' k out hlt h32 h3).symm.trans hu.out)
            have h3' : dig (s[k].toNat : Int) < 0 := by rw [hb.out]; exact h3
            clear h3 h32
            go_wp2_with fail
            refine (digit_any _ (by omega) (by omega) _).mono ?_; rintro e w' ⟨rfl, rfl⟩
            go_wp2_with fail
            go_ret2
            rw [← hu2.out]
            exact ⟨_, rfl, fun h => absurd h (by simp [Un.err]), .inr (.inr ⟨wr.heap.size, 0, rfl, by simp [Un.err], by simp [Un.at_]⟩), hBH.out.alloc hBH.out.size _⟩
          · have hu2 := Lib.hid ((uh_bad2 s f' k out hlt h32 h3 (.inl (by omega))).symm.trans hu.out)
            have h3' : ¬ dig (s[k].toNat : Int) < 0 := by rw [hb.out]; exact h3
            clear h3 h32
            go_wp2_with fail
            refine (digit_any _ (by omega) (by omega) _).mono ?_; rintro e w' ⟨rfl, rfl⟩
            go_wp2_with fail
            go_ret2
            rw [← hu2.out]
            exact ⟨_, rfl, fun h => absurd h (by simp [Un.err]), .inr (.inr ⟨wr.heap.size, 0, rfl, by simp [Un.err], by simp [Un.at_]⟩), hBH.out.alloc hBH.out.size _⟩
    · have hu2 := Lib.hid ((uh_end s f k out (by omega)).symm.trans hu.out)
      have hstr := own_string (P := Tryd.prog) (T := 87) (S := 9) ho.out Tryd.underlying87 Tryd.underlying5 Tryd.underlying9
      go_wp2_with fail
      go_ret2
      rw [← hu2.out]
      exact ⟨_, rfl, fun _ => rfl, .inl ⟨rfl, rfl, rfl⟩, hBH.out⟩
end Go.Proofs.YtgkmjkjcdjkffaaDoor.Dig
