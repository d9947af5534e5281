/-
  PROVED HERE: what number digits are, as one function, and the contracts of digits.Parse and of the document's DigitsParse. Conditions: as each theorem states.
-/
import Derived.Test.YtofmheeiplagjaaGreatDoorDigA
import Derived.Test.YtofmheeiplagjaaGreatDoorErrB
import Derived.Test.YtofmheeiplagjaaGreatDoorRef
import Derived.Test.YtofmheeiplagjaaGreatDoorOwn
namespace Go.Proofs.YtofmheeiplagjaaGreatDoor.Dig
open Go.RowKit

/-- An error's value: nil for none. -/
def ev (n : Int) : Value := if n = 0 then .nilIface else .iface 25 (.int .i64 n)
theorem ev_is (w : World) (n : Int) : Err.ErrIs w (ev n) n (-1) := by
  unfold ev
  by_cases h : n = 0
  · rw [if_pos h]; exact .inl ⟨rfl, h, rfl⟩
  · rw [if_neg h]; exact .inr (.inl ⟨rfl, rfl⟩)
/-- Digit k of a text. -/
def dd (s : ByteArray) (k : Nat) : Int := dig (byteAt s k)
theorem dig_bounds' (s : ByteArray) (k : Nat) : -1 ≤ dd s k ∧ dd s k ≤ 15 := by unfold dd dig; omega
/-- The number, modulo 2^64, and whether it is above, of the first k digits. -/
def pn (s : ByteArray) (b : Nat) : Nat → Nat
  | 0 => 0
  | k + 1 => (pn s b k * b + (dd s k).toNat) % 18446744073709551616
def po (s : ByteArray) (b : Nat) : Nat → Bool
  | 0 => false
  | k + 1 => po s b k || decide (18446744073709551616 ≤ pn s b k * b + (dd s k).toNat)
theorem pn_lt (s : ByteArray) (b k : Nat) : pn s b k < 18446744073709551616 := by
  cases k with
  | zero => show (0 : Nat) < 18446744073709551616; decide
  | succ k => exact Nat.mod_lt _ (by decide)
/-- Some byte is no digit of the base. -/
def badB (s : ByteArray) (b : Nat) : Bool := (List.range s.size).any fun k => decide (dd s k < 0 ∨ (b : Int) ≤ dd s k)
theorem badB_yes (s : ByteArray) (b k : Nat) (hk : k < s.size) (h : dd s k < 0 ∨ (b : Int) ≤ dd s k) : badB s b = true := by
  unfold badB
  rw [List.any_eq_true]
  exact ⟨k, List.mem_range.2 hk, decide_eq_true h⟩
theorem badB_no (s : ByteArray) (b : Nat) (h : ∀ k, k < s.size → ¬ (dd s k < 0 ∨ (b : Int) ≤ dd s k)) : badB s b = false := by
  unfold badB
  rw [List.any_eq_false]
  intro k hk
  rw [decide_eq_true_iff]
  exact h k (List.mem_range.1 hk)
/-- The answer: the number, and the error's number. -/
def pv (s : ByteArray) (b : Nat) : Nat := if s.size = 0 ∨ badB s b = true ∨ po s b s.size = true then 0 else pn s b s.size
def pe (s : ByteArray) (b : Nat) : Int := if s.size = 0 ∨ badB s b = true then 3 else if po s b s.size = true then 2 else 0
theorem over_iff (n b d : Nat) (hb : 2 ≤ b) (hd : d < b) (hb2 : b ≤ 16) : (18446744073709551615 - d) / b < n ↔ 18446744073709551616 ≤ n * b + d := by
  rw [Nat.div_lt_iff_lt_mul (by omega)]
  omega

theorem wrap_mad (n b d : Nat) : Value.int .u64 (IntKind.u64.wrap (IntKind.u64.wrap ((n : Int) * (b : Int)) + (d : Int))) = .int .u64 (((n * b + d) % 18446744073709551616 : Nat) : Int) := by
  congr 1
  rw [← Int.natCast_mul]
  generalize n * b = m
  have e : ∀ x : Int, IntKind.u64.wrap x = x % 18446744073709551616 := fun x => by simp [IntKind.wrap, IntKind.bits, IntKind.signed]
  rw [e, e]
  omega
set_option maxRecDepth 100000 in
set_option maxHeartbeats 1000000 in
theorem parse_yes (s : ByteArray) (b : Nat) (hb : 2 ≤ b ∧ b ≤ 16) (hs : s.size ≤ 1000) (W : World) :
    Calls Tryz.prog 107 #[.string s, .int .i64 b] W fun e w' => e = .returned (.tuple #[.int .u64 (pv s b : Nat), ev (pe s b)]) ∧ Below W.heap.size W w' := by
  obtain ⟨hb1, hb2⟩ := hb
  by_cases h0 : s.size = 0
  · have hv : pv s b = 0 := by unfold pv; rw [if_pos (.inl h0)]
    have he : ev (pe s b) = .iface 25 (.int .i64 3) := by unfold pe; rw [if_pos (.inl h0)]; rfl
    rw [hv, he]
    have hz : s.toList.isEmpty = true := by
      rw [ByteArray.toList_eq]
      have e : s.data.toList.length = s.size := rfl
      rw [List.isEmpty_iff]
      exact List.eq_nil_of_length_eq_zero (by omega)
    clear hv he h0
    go_enter Tryz.func107, Tryz.ntmps107
    go_wp2_with fail
    go_ret2
    exact ⟨rfl, Below.refl _ _⟩
  have hz := str_full s (by omega)
  have FORM : Hid (badB s b = true → pv s b = 0 ∧ ev (pe s b) = .iface 25 (.int .i64 3)) := Lib.hid (fun h => by
    unfold pv pe; rw [if_pos (.inr (.inl h)), if_pos (.inr h)]; exact ⟨rfl, rfl⟩)
  have OVER : Hid (badB s b = false → po s b s.size = true → pv s b = 0 ∧ ev (pe s b) = .iface 25 (.int .i64 2)) := Lib.hid (fun h h2 => by
    unfold pv pe; rw [if_pos (.inr (.inr h2)), if_neg (by simp [h0, h]), if_pos h2]; exact ⟨rfl, rfl⟩)
  have GOOD : Hid (badB s b = false → po s b s.size = false → pv s b = pn s b s.size ∧ ev (pe s b) = .nilIface) := Lib.hid (fun h h2 => by
    unfold pv pe; rw [if_neg (by simp [h0, h, h2]), if_neg (by simp [h0, h]), if_neg (by simp [h2])]; exact ⟨rfl, rfl⟩)
  generalize pv s b = V at *
  generalize ev (pe s b) = E at *
  go_enter Tryz.func107, Tryz.ntmps107
  go_wp2_with fail
  go_loop [6, 7, 22] (fun n o i => ∃ k : Nat, k ≤ s.size ∧ i = .int .i64 k ∧ n = .int .u64 (pn s b k : Nat) ∧ o = .bool (po s b k) ∧ Hid (∀ j, j < k → ¬ (dd s j < 0 ∨ (b : Int) ≤ dd s j))) (fun _ _ i => s.size - (intOf i).toNat)
  case atStart => exact ⟨0, Nat.zero_le _, rfl, rfl, rfl, Lib.hid (fun j hj => by omega)⟩
  case round =>
    obtain ⟨k, hk, rfl, rfl, rfl, hg⟩ := hrel
    have hn := pn_lt s b k
    by_cases hlt : k < s.size
    · have hbb := Lib.hid (byteAt_eq s k hlt)
      have hb3 : s[k].toNat < 256 := UInt8.toNat_lt _
      by_cases hbad : dd s k < 0 ∨ (b : Int) ≤ dd s k
      · have hF := FORM.out (badB_yes s b k hlt hbad)
        obtain ⟨hV, hE⟩ := hF
        subst hV hE
        have hbad' : dig (s[k].toNat : Int) < 0 ∨ (b : Int) ≤ dig (s[k].toNat : Int) := by rw [hbb.out]; exact hbad
        clear hbad
        generalize pn s b k = n at *
        generalize po s b k = o at *
        generalize hd : dig (s[k].toNat : Int) = d at *
        have hdH := Lib.hid hd
        clear hd
        rcases hbad' with h | h
        · go_wp2_with fail
          refine (digit_any _ (by omega) (by omega) _).mono ?_; rintro e w' ⟨rfl, rfl⟩
          rw [hdH.out]
          go_wp2_with fail
          go_ret2
          exact ⟨rfl, Below.refl _ _⟩
        · have h2 : ¬ d < 0 := by omega
          go_wp2_with fail
          refine (digit_any _ (by omega) (by omega) _).mono ?_; rintro e w' ⟨rfl, rfl⟩
          rw [hdH.out]
          go_wp2_with fail
          go_ret2
          exact ⟨rfl, Below.refl _ _⟩
      · have hd0 : 0 ≤ dd s k := by omega
        have hdb : dd s k < b := by omega
        have hg2 : Hid (∀ j, j < k + 1 → ¬ (dd s j < 0 ∨ (b : Int) ≤ dd s j)) := Lib.hid (fun j hj => by
          rcases Nat.lt_succ_iff_lt_or_eq.1 hj with h | rfl
          · exact hg.out j h
          · exact hbad)
        have ed : Hid (dig (s[k].toNat : Int) = dd s k) := Lib.hid (by rw [hbb.out]; rfl)
        have hS : Hid (pn s b (k + 1) = (pn s b k * b + (dd s k).toNat) % 18446744073709551616) := Lib.hid rfl
        have hO : Hid (po s b (k + 1) = (po s b k || decide (18446744073709551616 ≤ pn s b k * b + (dd s k).toNat))) := Lib.hid rfl
        obtain ⟨d, hd⟩ := Int.eq_ofNat_of_zero_le hd0
        rw [hd, Int.toNat_natCast] at hS hO
        rw [hd] at ed hdb
        have hI := Lib.hid (over_iff (pn s b k) b d hb1 (by omega) hb2)
        have hdb' : d < b := by omega
        clear hd hd0 hbad hdb
        generalize pn s b k = n at *
        generalize po s b k = o at *
        have q1 : (0 : Int) ≤ (18446744073709551615 - (d : Int)) / (b : Int) := Int.ediv_nonneg (by omega) (by omega)
        have q2 : (18446744073709551615 - (d : Int)) / (b : Int) ≤ 18446744073709551615 := by
          have := Int.ediv_le_self (b : Int) (show 0 ≤ 18446744073709551615 - (d : Int) by omega)
          omega
        have hcast : (18446744073709551615 - (d : Int)) / (b : Int) = (((18446744073709551615 - d) / b : Nat) : Int) := by
          rw [Int.natCast_ediv]; congr 1; omega
        have hcH := Lib.hid hcast
        clear hcast
        cases o with
        | true =>
          go_wp2_with fail
          refine (digit_any _ (by omega) (by omega) _).mono ?_; rintro e w' ⟨rfl, rfl⟩
          rw [ed.out]
          go_wp2_with fail
          go_round
          case rel => exact ⟨k + 1, by omega, by go_num, by rw [hS.out, wrap_mad], by rw [hO.out]; rfl, hg2⟩
          case measure => simp [intOf]; omega
        | false =>
          by_cases hov : 18446744073709551616 ≤ n * b + d
          · have hov' : (18446744073709551615 - (d : Int)) / (b : Int) < (n : Int) := by
              rw [hcH.out]
              exact Int.ofNat_lt.2 (hI.out.2 hov)
            have hovH := Lib.hid hov
            clear hov
            go_wp2_with fail
            refine (digit_any _ (by omega) (by omega) _).mono ?_; rintro e w' ⟨rfl, rfl⟩
            rw [ed.out]
            go_wp2_with fail
            go_round
            case rel => exact ⟨k + 1, by omega, by go_num, by rw [hS.out, wrap_mad], by rw [hO.out]; rw [decide_eq_true hovH.out]; simp, hg2⟩
            case measure => simp [intOf]; omega
          · have hov' : ¬ (18446744073709551615 - (d : Int)) / (b : Int) < (n : Int) := by
              rw [hcH.out]
              exact fun h => hov (hI.out.1 (Int.ofNat_lt.1 h))
            have hovH := Lib.hid hov
            clear hov
            go_wp2_with fail
            refine (digit_any _ (by omega) (by omega) _).mono ?_; rintro e w' ⟨rfl, rfl⟩
            rw [ed.out]
            go_wp2_with fail
            go_round
            case rel => exact ⟨k + 1, by omega, by go_num, by rw [hS.out, wrap_mad], by rw [hO.out]; rw [decide_eq_false hovH.out]; simp [hov'], hg2⟩
            case measure => simp [intOf]; omega
    · obtain rfl : k = s.size := by omega
      have hF : badB s b = false := badB_no s b hg.out
      cases ho : po s b s.size with
      | true =>
        obtain ⟨hV, hE⟩ := OVER.out hF ho
        subst hV hE
        clear ho
        go_wp2_with fail
        go_ret2
        exact ⟨rfl, Below.refl _ _⟩
      | false =>
        obtain ⟨hV, hE⟩ := GOOD.out hF ho
        subst hV hE
        clear ho
        generalize hpn : pn s b s.size = n at *
        have hpnH := Lib.hid hpn
        clear hpn
        go_wp2_with fail
        go_ret2
        exact ⟨by rw [hpnH.out]; rfl, Below.refl _ _⟩
end Go.Proofs.YtofmheeiplagjaaGreatDoor.Dig
