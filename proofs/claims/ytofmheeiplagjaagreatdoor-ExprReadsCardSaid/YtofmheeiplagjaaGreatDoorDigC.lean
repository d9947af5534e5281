/-
  PROVED HERE: contracts of digits.Print and of the document's DigitsPrint. Conditions: as each theorem states.
-/
import Derived.Test.YtofmheeiplagjaaGreatDoorDigB
import Derived.Test.YtofmheeiplagjaaGreatDoorRef
namespace Go.Proofs.YtofmheeiplagjaaGreatDoor.Dig
open Go.RowKit

/-- A digit's figure. -/
def fig (d : Nat) : UInt8 := if d < 10 then UInt8.ofNat (48 + d) else UInt8.ofNat (87 + d)
/-- The figures of a number, the least first. -/
def le (n b k : Nat) : List UInt8 := (List.range k).map fun i => fig (n / b ^ i % b)
theorem le_len (n b k : Nat) : (le n b k).length = k := by simp [le]
theorem le_succ (n b k : Nat) : le n b (k + 1) = le n b k ++ [fig (n / b ^ k % b)] := by simp [le, List.range_succ]
/-- How many figures: as many as are wanted, one at least, and as many as the number has. -/
def enough (n b w k : Nat) : Bool := decide (1 ≤ k ∧ w ≤ k ∧ n / b ^ k = 0)
def cnt (n b w : Nat) : Nat := ((List.range 65).find? (enough n b w)).getD 64
theorem find_least (p : Nat → Bool) (N k : Nat) (hk : k < N) (hp : p k = true) (hl : ∀ i, i < k → p i = false) : (List.range N).find? p = some k := by
  rw [List.find?_eq_some_iff_append]
  refine ⟨hp, List.range k, (List.range (N - k - 1)).map (· + (k + 1)), ?_, fun a ha => by simp [hl a (List.mem_range.1 ha)]⟩
  apply List.ext_getElem
  · simp; omega
  · intro i h1 h2
    rw [List.getElem_range]
    by_cases c : i < k
    · rw [List.getElem_append_left (by simpa using c)]; simp
    · rw [List.getElem_append_right (by simpa using Nat.le_of_not_lt c)]
      by_cases e : i = k
      · subst e; simp
      · have : i - (List.range k).length = (i - k - 1) + 1 := by simp; omega
        simp only [this, List.getElem_cons_succ, List.getElem_map, List.getElem_range]
        omega
theorem cnt_is (n b w k : Nat) (hk : k ≤ 64) (hp : enough n b w k = true) (hl : ∀ i, i < k → enough n b w i = false) : cnt n b w = k := by
  unfold cnt; rw [find_least _ 65 k (by omega) hp hl]; rfl

theorem figures_at : ∀ d : Fin 16, (⟨#[48, 49, 50, 51, 52, 53, 54, 55, 56, 57, 97, 98, 99, 100, 101, 102]⟩ : ByteArray)[d.val]'(d.isLt) = fig d.val := by decide +kernel

theorem fig_index (d : Nat) (h : d < 16) : (⟨#[48, 49, 50, 51, 52, 53, 54, 55, 56, 57, 97, 98, 99, 100, 101, 102]⟩ : ByteArray)[d]'h = fig d := figures_at ⟨d, h⟩
set_option maxRecDepth 100000 in
set_option maxHeartbeats 800000 in
theorem print_yes (x b w : Nat) (hx : x < 18446744073709551616) (hb : 2 ≤ b ∧ b ≤ 16) (hw : w ≤ 64) (W : World) :
    Calls Tryz.prog 35 #[.int .u64 x, .int .i64 b, .int .i64 w] W fun e w' => e = .returned (.tuple #[.string ⟨(le x b (cnt x b w)).reverse.toArray⟩, .nilIface]) ∧ Below W.heap.size W w' := by
  obtain ⟨hb1, hb2⟩ := hb
  go_enter Tryz.func35, Tryz.ntmps35
  go_wp2_with fail
  go_loopw [0, 8] (fun n v wr => ∃ k q : Nat, k ≤ 64 ∧ n = .int .u64 q ∧ (∃ a cap, v = .slice a k cap) ∧ Hid (q = x / b ^ k) ∧ Hid (Own wr W.heap.size 5 v (u8s (le x b k))) ∧ Below W.heap.size W wr ∧ Hid (∀ i, i < k → enough x b w i = false)) (fun _ v _ => match v with | .slice _ n _ => 65 - n | _ => 0)
  case atStart => exact ⟨0, x, by omega, rfl, ⟨_, _, rfl⟩, Lib.hid (by simp), Lib.hid (own_nil _ _ _), Below.refl _ _, Lib.hid (fun i hi => by omega)⟩
  case round =>
    obtain ⟨k, q, hk, rfl, ⟨a, cap, rfl⟩, hq, ho, hB, hl⟩ := hrel
    have hBH := Lib.hid hB
    clear hB
    have hq64 : q < 18446744073709551616 := Nat.lt_of_le_of_lt (by rw [hq.out]; exact Nat.div_le_self _ _) hx
    have hdig := Lib.hid (fig_index (q % b) (Nat.lt_of_lt_of_le (Nat.mod_lt _ (by omega)) hb2))
    have hd : q % b < 16 := Nat.lt_of_lt_of_le (Nat.mod_lt _ (by omega)) hb2
    have i1 : (0 : Int) ≤ (q : Int) % (b : Int) := by rw [← Int.natCast_emod]; omega
    have i2 : (q : Int) % (b : Int) < 16 := by rw [← Int.natCast_emod]; omega
    have i3 : (0 : Int) ≤ (q : Int) / (b : Int) := by rw [← Int.natCast_ediv]; exact Int.natCast_nonneg _
    have i4 : (q : Int) / (b : Int) < 18446744073709551616 := by
      rw [← Int.natCast_ediv]
      exact Int.ofNat_lt.2 (Nat.lt_of_le_of_lt (Nat.div_le_self q b) hq64)
    have hk64 : 0 < q → k < 64 := fun h => by
      rcases Nat.lt_or_ge k 64 with h1 | h1
      · exact h1
      · have h2 : b ^ 64 ≤ b ^ k := Nat.pow_le_pow_right (by omega) h1
        have h3 : 2 ^ 64 ≤ b ^ 64 := Nat.pow_le_pow_left hb1 64
        have h4 : x < b ^ k := by omega
        have h5 := hq.out
        rw [Nat.div_eq_of_lt h4] at h5
        omega
    have hcase : (0 < q ∨ (q ≤ 0 ∧ k < w) ∨ (q ≤ 0 ∧ w ≤ k ∧ ((k : Int) == 0) = true)) ∨ (q ≤ 0 ∧ w ≤ k ∧ ((k : Int) == 0) = false) := by
      rw [beq_iff_eq, beq_eq_false_iff_ne]; omega
    rcases hcase with hgo | ⟨c1, c2, c3⟩
    · have hkk : k < 64 := by
        rw [beq_iff_eq] at hgo
        omega
      have hen : enough x b w k = false := by
        unfold enough
        rw [decide_eq_false_iff_not, ← hq.out]
        rw [beq_iff_eq] at hgo
        omega
      have henH := Lib.hid hen
      clear hen
      rcases hgo with c1 | ⟨c1, c2⟩ | ⟨c1, c2, c3⟩
      all_goals
        go_wp2_with (at_builtin; refine own_append1 rfl _ _ 94 rfl W.heap.size 5 (.int .u8 0) 1 Tryz.underlying94 (by kernel_rfl) rfl _ _ rfl (ho.out.alloc _) _ 1 _ rfl (new_cell wr _ _) rfl (by rw [u8s_len, le_len]; omega) (by rw [u8s_len, le_len]; omega) (le_alloc hBH.out.size _) ?_; intro v1 w1 ho1 hg1 hb1 hat1)
        rw [hdig.out, u8s_snoc] at ho1
        go_roundw
        case rel =>
          refine ⟨k + 1, q / b, by omega, congrArg (Value.int .u64) (Int.natCast_ediv q b).symm, ?_, Lib.hid (by rw [hq.out, Nat.div_div_eq_div_mul, Nat.pow_succ]), Lib.hid (by rw [le_succ, ← hq.out]; exact ho1), below_append hBH.out _ hBH.out.size hb1, Lib.hid (fun i hi => ?_)⟩
          · obtain ⟨a', c', e'⟩ := ho1.len
            rw [u8s_len, List.length_append, le_len] at e'
            exact ⟨a', c', e'⟩
          · rcases Nat.lt_succ_iff_lt_or_eq.1 hi with h | rfl
            · exact hl.out i h
            · exact henH.out
        case measure =>
          obtain ⟨a', c', e'⟩ := ho1.len
          rw [u8s_len, List.length_append, le_len] at e'
          rw [e']
          simp
          omega
    · have hen : enough x b w k = true := by
        unfold enough
        rw [decide_eq_true_iff, ← hq.out]
        rw [beq_eq_false_iff_ne] at c3
        omega
      have hcnt := Lib.hid (cnt_is x b w k hk hen hl.out)
      clear hen
      have hlen := le_len x b k
      clear i1 i2 i3 i4
      go_wp2_with fail
      refine (reverse_any _ _ _ _ ho.out (by omega)).mono ?_; rintro e w1 ⟨rfl, ho1, hb1⟩
      have hb1H := Lib.hid hb1
      have hstr := own_string (P := Tryz.prog) (T := 94) (S := 9) ho1 Tryz.underlying94 Tryz.underlying5 Tryz.underlying9
      clear hb1 ho1
      go_wp2_with fail
      go_ret2
      exact ⟨by rw [hcnt.out]; simp, hBH.out.trans hb1H.out⟩
end Go.Proofs.YtofmheeiplagjaaGreatDoor.Dig
