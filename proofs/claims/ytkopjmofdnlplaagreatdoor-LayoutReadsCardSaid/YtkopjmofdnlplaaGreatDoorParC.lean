/-
  PROVED HERE: what number digits are, as one function, and the contracts of digits.Parse and of the document's DigitsParse; the contract of the document's DigitsParse; what a written number is, as one function, and the contract of digits.Number. Conditions: as each theorem states.
-/
import Derived.Test.YtkopjmofdnlplaaGreatDoorDigA
import Derived.Test.YtkopjmofdnlplaaGreatDoorErrB
import Derived.Test.YtkopjmofdnlplaaGreatDoorRef
import Derived.Test.YtkopjmofdnlplaaGreatDoorOwn
import Derived.Test.YtkopjmofdnlplaaGreatDoorShelf
import Derived.Laws.Externs
import Derived.Deep.DeepCutAuto
namespace Go.Proofs.YtkopjmofdnlplaaGreatDoor.Dig
open Go.RowKit

/-- An error's value: nil for none. -/
def ev (n : Int) : Value := if n = 0 then .nilIface else .iface 28 (.int .i64 n)
theorem ev_is (w : World) (n : Int) : Err.ErrIs w (ev n) n (-1) := by
  unfold ev
  by_cases h : n = 0
  · rw [if_pos h]; exact .inl ⟨rfl, h, rfl⟩
  · rw [if_neg h]; exact .inr (.inl ⟨rfl, rfl⟩)
/-- Digit k of a text. -/
def dd (s : ByteArray) (k : Nat) : Int := dig (byteAt s k)
theorem dig_bounds' (s : ByteArray) (k : Nat) : -1 ≤ dd s k ∧ dd s k ≤ 15 := by unfold dd dig; omega
/-- The number, modulo 2^64, and whether it is above, of the first k digits. -/
def pn (s : ByteArray) (b : Nat) : Nat → Nat
  | 0 => 0
  | k + 1 => (pn s b k * b + (dd s k).toNat) % 18446744073709551616
def po (s : ByteArray) (b : Nat) : Nat → Bool
  | 0 => false
  | k + 1 => po s b k || decide (18446744073709551616 ≤ pn s b k * b + (dd s k).toNat)
theorem pn_lt (s : ByteArray) (b k : Nat) : pn s b k < 18446744073709551616 := by
  cases k with
  | zero => show (0 : Nat) < 18446744073709551616; decide
  | succ k => exact Nat.mod_lt _ (by decide)
/-- Some byte is no digit of the base. -/
def badB (s : ByteArray) (b : Nat) : Bool := (List.range s.size).any fun k => decide (dd s k < 0 ∨ (b : Int) ≤ dd s k)
theorem badB_yes (s : ByteArray) (b k : Nat) (hk : k < s.size) (h : dd s k < 0 ∨ (b : Int) ≤ dd s k) : badB s b = true := by
  unfold badB
  rw [List.any_eq_true]
  exact ⟨k, List.mem_range.2 hk, decide_eq_true h⟩
theorem badB_no (s : ByteArray) (b : Nat) (h : ∀ k, k < s.size → ¬ (dd s k < 0 ∨ (b : Int) ≤ dd s k)) : badB s b = false := by
  unfold badB
  rw [List.any_eq_false]
  intro k hk
  rw [decide_eq_true_iff]
  exact h k (List.mem_range.1 hk)
/-- The answer: the number, and the error's number. -/
def pv (s : ByteArray) (b : Nat) : Nat := if s.size = 0 ∨ badB s b = true ∨ po s b s.size = true then 0 else pn s b s.size
def pe (s : ByteArray) (b : Nat) : Int := if s.size = 0 ∨ badB s b = true then 3 else if po s b s.size = true then 2 else 0
theorem over_iff (n b d : Nat) (hb : 2 ≤ b) (hd : d < b) (hb2 : b ≤ 16) : (18446744073709551615 - d) / b < n ↔ 18446744073709551616 ≤ n * b + d := by
  rw [Nat.div_lt_iff_lt_mul (by omega)]
  omega

theorem wrap_mad (n b d : Nat) : Value.int .u64 (IntKind.u64.wrap (IntKind.u64.wrap ((n : Int) * (b : Int)) + (d : Int))) = .int .u64 (((n * b + d) % 18446744073709551616 : Nat) : Int) := by
  congr 1
  rw [← Int.natCast_mul]
  generalize n * b = m
  have e : ∀ x : Int, IntKind.u64.wrap x = x % 18446744073709551616 := fun x => by simp [IntKind.wrap, IntKind.bits, IntKind.signed]
  rw [e, e]
  omega
end Go.Proofs.YtkopjmofdnlplaaGreatDoor.Dig
namespace Go.Proofs.YtkopjmofdnlplaaGreatDoor.Dig
open Go.RowKit

theorem add64 (x y : Nat) (w : World) : (callFunc 182 #[.int .u64 x, .int .u64 y, .int .u64 0]).run Tryz.prog w = .ok (.value (.tuple #[.int .u64 (((x + y) % 18446744073709551616 : Nat) : Int), .int .u64 (((x + y) / 18446744073709551616 : Nat) : Int)])) w := by
  rw [run_callFunc_extern Tryz.func182 (by kernel_rfl) (by kernel_rfl) (by kernel_rfl) (e := add64Entry) (by kernel_rfl), run_add64 x y 0 (by omega) (by omega) (by omega) (by omega)]
  simp only [Result.andThen]
  congr 5 <;> omega
def b01 (o : Bool) : Nat := if o then 1 else 0
/-- Whether there is more than 64 bits, as the document asks. -/
theorem more_iff (n b d : Nat) (hd : d < 18446744073709551616) : (0 < n * b / 18446744073709551616 + (n * b % 18446744073709551616 + d) / 18446744073709551616) ↔ 18446744073709551616 ≤ n * b + d := by
  generalize n * b = m
  omega
theorem more_le (n b d : Nat) (hn : n < 18446744073709551616) (hb : b ≤ 16) (hd : d < 16) : n * b / 18446744073709551616 + (n * b % 18446744073709551616 + d) / 18446744073709551616 ≤ 17 := by
  have : n * b ≤ 18446744073709551616 * 16 := Nat.mul_le_mul (by omega) hb
  generalize n * b = m at *
  omega
theorem low_is (n b d : Nat) : (n * b % 18446744073709551616 + d) % 18446744073709551616 = (n * b + d) % 18446744073709551616 := by
  generalize n * b = m
  omega

set_option maxRecDepth 100000 in
set_option maxHeartbeats 1000000 in
theorem docParse_yes (s : ByteArray) (b : Nat) (hb : 2 ≤ b ∧ b ≤ 16) (hs : s.size ≤ 1000) (W : World) :
    Calls Tryz.prog 179 #[.string s, .int .i64 b] W fun e w' => e = .returned (.tuple #[.int .u64 (pv s b : Nat), .int .i64 (pe s b)]) ∧ Below W.heap.size W w' := by
  obtain ⟨hb1, hb2⟩ := hb
  by_cases h0 : s.size = 0
  · have hv : pv s b = 0 := by unfold pv; rw [if_pos (.inl h0)]
    have he : pe s b = 3 := by unfold pe; rw [if_pos (.inl h0)]
    rw [hv, he]
    have hz : s.toList.isEmpty = true := by
      rw [ByteArray.toList_eq]
      have e : s.data.toList.length = s.size := rfl
      rw [List.isEmpty_iff]
      exact List.eq_nil_of_length_eq_zero (by omega)
    clear hv he h0
    go_enter Tryz.func179, Tryz.ntmps179
    go_wp2_with fail
    refine (Ref.within_yes _ _ _ (by omega) (by omega) _).mono ?_; rintro e w' ⟨rfl, rfl⟩
    go_wp2_with fail
    go_ret2
    exact ⟨rfl, Below.refl _ _⟩
  have hz := str_full s (by omega)
  have FORM : Hid (badB s b = true → pv s b = 0 ∧ pe s b = 3) := Lib.hid (fun h => by
    unfold pv pe; rw [if_pos (.inr (.inl h)), if_pos (.inr h)]; exact ⟨rfl, rfl⟩)
  have OVER : Hid (badB s b = false → po s b s.size = true → pv s b = 0 ∧ pe s b = 2) := Lib.hid (fun h h2 => by
    unfold pv pe; rw [if_pos (.inr (.inr h2)), if_neg (by simp [h0, h]), if_pos h2]; exact ⟨rfl, rfl⟩)
  have GOOD : Hid (badB s b = false → po s b s.size = false → pv s b = pn s b s.size ∧ pe s b = 0) := Lib.hid (fun h h2 => by
    unfold pv pe; rw [if_neg (by simp [h0, h, h2]), if_neg (by simp [h0, h]), if_neg (by simp [h2])]; exact ⟨rfl, rfl⟩)
  generalize pv s b = V at *
  generalize pe s b = E at *
  have hadd : ∀ (x y : Nat) (w : World), (callFunc 182 #[.int .u64 x, .int .u64 y, .int .u64 0]).run Tryz.prog w = .ok (.value (.tuple #[.int .u64 (((x + y) % 18446744073709551616 : Nat) : Int), .int .u64 (((x + y) / 18446744073709551616 : Nat) : Int)])) w := add64
  go_enter Tryz.func179, Tryz.ntmps179
  go_wp2_with fail
  refine (Ref.within_yes _ _ _ (by omega) (by omega) _).mono ?_; rintro e w' ⟨rfl, rfl⟩
  go_wp2_with fail
  go_loopw [6, 7, 8] (fun o n i wr => ∃ k : Nat, k ≤ s.size ∧ i = .int .i64 k ∧ n = .int .u64 (pn s b k : Nat) ∧ (∃ h : Nat, h ≤ 1 ∧ o = .int .u64 h ∧ Hid (h = b01 (po s b k))) ∧ Hid (∀ j, j < k → ¬ (dd s j < 0 ∨ (b : Int) ≤ dd s j)) ∧ Below W.heap.size W wr) (fun _ _ i _ => s.size - (intOf i).toNat)
  case atStart => exact ⟨0, Nat.zero_le _, rfl, rfl, ⟨0, by omega, rfl, Lib.hid rfl⟩, Lib.hid (fun j hj => by omega), Below.refl _ _⟩
  case round =>
    obtain ⟨k, hk, rfl, rfl, ⟨h, hh1, rfl, hhb⟩, hg, hB⟩ := hrel
    have hBH := Lib.hid hB
    clear hB
    have hn := pn_lt s b k
    by_cases hlt : k < s.size
    · have hbb := Lib.hid (byteAt_eq s k hlt)
      have hb3 : s[k].toNat < 256 := UInt8.toNat_lt _
      have ed : Hid (dig (s[k].toNat : Int) = dd s k) := Lib.hid (by rw [hbb.out]; rfl)
      have dB := dig_bounds' s k
      by_cases hbad : dd s k < 0 ∨ (b : Int) ≤ dd s k
      · have hF := FORM.out (badB_yes s b k hlt hbad)
        obtain ⟨hV, hE⟩ := hF
        subst hV hE
        generalize pn s b k = n at *
        generalize dd s k = d at *
        go_wp2_with fail
        refine (docDigit_any _ (by omega) (by omega) _).mono ?_; rintro e w1 ⟨rfl, hb1'⟩
        have hW1 := Lib.hid (hBH.out.trans (hb1'.mono hBH.out.size))
        clear hb1'
        rw [ed.out]
        go_wp2_with fail
        refine (Ref.within_no _ _ _ (by omega) _).mono ?_; rintro e w' ⟨rfl, rfl⟩
        go_wp2_with fail
        go_ret2
        exact ⟨rfl, hW1.out⟩
      · have hd0 : 0 ≤ dd s k := by omega
        have hdb : dd s k < b := by omega
        have hg2 : Hid (∀ j, j < k + 1 → ¬ (dd s j < 0 ∨ (b : Int) ≤ dd s j)) := Lib.hid (fun j hj => by
          rcases Nat.lt_succ_iff_lt_or_eq.1 hj with h | rfl
          · exact hg.out j h
          · exact hbad)
        have hS : Hid (pn s b (k + 1) = (pn s b k * b + (dd s k).toNat) % 18446744073709551616) := Lib.hid rfl
        have hO : Hid (po s b (k + 1) = (po s b k || decide (18446744073709551616 ≤ pn s b k * b + (dd s k).toNat))) := Lib.hid rfl
        obtain ⟨d, hd⟩ := Int.eq_ofNat_of_zero_le hd0
        rw [hd, Int.toNat_natCast] at hS hO
        rw [hd] at ed hdb
        have hdb' : d < b := by omega
        have hI := Lib.hid (more_iff (pn s b k) b d (by omega))
        have hL := Lib.hid (low_is (pn s b k) b d)
        have hM := more_le (pn s b k) b d hn hb2 (by omega)
        clear hd hd0 hbad hdb dB
        generalize pn s b k = n at *
        generalize po s b k = o at *
        go_wp2_with fail
        refine (docDigit_any _ (by omega) (by omega) _).mono ?_; rintro e w1 ⟨rfl, hb1'⟩
        have hW1 := Lib.hid (hBH.out.trans (hb1'.mono hBH.out.size))
        clear hb1'
        rw [ed.out]
        go_wp2_with fail
        refine (Ref.within_yes _ _ _ (by omega) (by omega) _).mono ?_; rintro e w' ⟨rfl, rfl⟩
        go_wp2_with fail
        refine (Tryz.bits_Mul64 n b hn (by omega) _).mono ?_; rintro e w' ⟨rfl, rfl⟩
        have hfin : Hid (∀ m : Nat, ((0 < n * b / 18446744073709551616 + (n * b % 18446744073709551616 + d) / 18446744073709551616 ∨ 0 < h) → m = 1) → ((¬ (0 < n * b / 18446744073709551616 + (n * b % 18446744073709551616 + d) / 18446744073709551616 ∨ 0 < h)) → m = 0) → m = b01 (po s b (k + 1))) := Lib.hid (fun m m1 m2 => by
          rw [hO.out]
          have h1 := hhb.out
          cases o with
          | true =>
            rw [m1 (.inr (by rw [h1]; decide))]; rfl
          | false =>
            by_cases hc : 18446744073709551616 ≤ n * b + d
            · rw [m1 (.inl (hI.out.2 hc)), decide_eq_true hc]; rfl
            · rw [m2 (fun hx => by
                rcases hx with hx | hx
                · exact hc (hI.out.1 hx)
                · rw [h1] at hx; revert hx; decide), decide_eq_false hc]; rfl)
        generalize n * b / 18446744073709551616 = X at *
        generalize n * b % 18446744073709551616 = Y at *
        clear hadd
        have ha2 := fun w => add64 Y d w
        rcases (show (0 < X + (Y + d) / 18446744073709551616 ∨ 0 < h) ∨ (X + (Y + d) / 18446744073709551616 ≤ 0 ∧ h ≤ 0) by omega) with hc | ⟨c1, c2⟩
        · have hm := Lib.hid (hfin.out 1 (fun _ => rfl) (fun hx => absurd hc hx))
          rcases (show 0 < X + (Y + d) / 18446744073709551616 ∨ (X + (Y + d) / 18446744073709551616 ≤ 0 ∧ 0 < h) by omega) with c1 | ⟨c1, c2⟩
          all_goals
            go_wp2_with fail
            go_roundw
            case rel => exact ⟨k + 1, by omega, by go_num, by rw [hS.out, ← hL.out]; simp, ⟨1, by omega, rfl, hm⟩, hg2, hW1.out⟩
            case measure => simp [intOf]; omega
        · have hm := Lib.hid (hfin.out 0 (fun hx => by omega) (fun _ => rfl))
          have h0' : h = 0 := by omega
          subst h0'
          go_wp2_with fail
          go_roundw
          case rel => exact ⟨k + 1, by omega, by go_num, by rw [hS.out, ← hL.out]; simp, ⟨0, by omega, rfl, hm⟩, hg2, hW1.out⟩
          case measure => simp [intOf]; omega
    · obtain rfl : k = s.size := by omega
      have hF : badB s b = false := badB_no s b hg.out
      cases ho : po s b s.size with
      | true =>
        obtain ⟨hV, hE⟩ := OVER.out hF ho
        subst hV hE
        have hp : 0 < h := by rw [hhb.out, ho]; decide
        clear ho
        go_wp2_with fail
        go_ret2
        exact ⟨rfl, hBH.out⟩
      | false =>
        obtain ⟨hV, hE⟩ := GOOD.out hF ho
        subst hV hE
        have hp : ¬ 0 < h := by rw [hhb.out, ho]; decide
        clear ho
        generalize hpn : pn s b s.size = n at *
        have hpnH := Lib.hid hpn
        clear hpn
        go_wp2_with fail
        go_ret2
        exact ⟨by rw [hpnH.out]; rfl, hBH.out⟩
end Go.Proofs.YtkopjmofdnlplaaGreatDoor.Dig
namespace Go.Proofs.YtkopjmofdnlplaaGreatDoor.Dig
open Go.RowKit

def nneg (s : ByteArray) : Bool := decide (0 < s.size ∧ byteAt s 0 = 45)
def nt (s : ByteArray) : ByteArray := if nneg s then s.extract 1 s.size else s
def nb (t : ByteArray) : Nat := if 2 ≤ t.size ∧ byteAt t 0 = 48 then (if byteAt t 1 = 120 then 16 else if byteAt t 1 = 98 then 2 else 10) else 10
def nu (t : ByteArray) : ByteArray := if 2 ≤ t.size ∧ byteAt t 0 = 48 ∧ (byteAt t 1 = 120 ∨ byteAt t 1 = 98) then t.extract 2 t.size else t
def nv (neg : Bool) (v : Nat) (e : Int) : Int := if e ≠ 0 then 0 else if neg then (if v ≤ 9223372036854775808 then -(v : Int) else 0) else if 9223372036854775808 ≤ v then 0 else v
def ne (neg : Bool) (v : Nat) (e : Int) : Int := if e ≠ 0 then e else if neg then (if v ≤ 9223372036854775808 then 0 else 2) else if 9223372036854775808 ≤ v then 2 else 0
theorem pe_cases (s : ByteArray) (b : Nat) : pe s b = 0 ∨ pe s b = 2 ∨ pe s b = 3 := by
  unfold pe
  split
  · exact .inr (.inr rfl)
  · split
    · exact .inr (.inl rfl)
    · exact .inl rfl
theorem pv_lt (s : ByteArray) (b : Nat) : pv s b < 18446744073709551616 := by
  unfold pv
  split
  · decide
  · exact pn_lt _ _ _
theorem nv_low (v : Nat) (h : v < 9223372036854775808) : Ending.returned (.tuple #[.int .i64 (wrap64 (v : Int)), .nilIface]) = Ending.returned (.tuple #[.int .i64 (nv false v 0), ev (ne false v 0)]) := by
  have h1 : ¬ 9223372036854775808 ≤ v := by omega
  rw [IntWalk.wrap64_in _ (by omega)]
  simp [nv, ne, ev, h1]
theorem nv_high (v : Nat) (h1 : 9223372036854775808 ≤ v) : Ending.returned (.tuple #[.int .i64 0, .iface 28 (.int .i64 2)]) = Ending.returned (.tuple #[.int .i64 (nv false v 0), ev (ne false v 0)]) := by
  simp [nv, ne, ev, h1]
theorem neg_back (v : Nat) (h : v ≤ 9223372036854775808) : wrap64 (IntKind.u64.wrap (-(v : Int))) = -(v : Int) := by
  have e : IntKind.u64.wrap (-(v : Int)) = (-(v : Int)) % 18446744073709551616 := by simp [IntKind.wrap, IntKind.bits, IntKind.signed]
  rw [e]
  unfold wrap64
  omega
theorem nv_neg (v : Nat) (h : v ≤ 9223372036854775808) : Ending.returned (.tuple #[.int .i64 (wrap64 (IntKind.u64.wrap (-(v : Int)))), .nilIface]) = Ending.returned (.tuple #[.int .i64 (nv true v 0), ev (ne true v 0)]) := by
  rw [neg_back v h]
  simp [nv, ne, ev, h]
theorem nv_high_neg (v : Nat) (h1 : 9223372036854775808 < v) : Ending.returned (.tuple #[.int .i64 0, .iface 28 (.int .i64 2)]) = Ending.returned (.tuple #[.int .i64 (nv true v 0), ev (ne true v 0)]) := by
  have h2 : ¬ v ≤ 9223372036854775808 := by omega
  simp [nv, ne, ev, h2]
/-- The five forms of what stands behind the sign. -/
theorem kinds (t : ByteArray) :
    (t.size ≤ 1 ∧ nb t = 10 ∧ nu t = t) ∨ (2 ≤ t.size ∧ byteAt t 0 ≠ 48 ∧ nb t = 10 ∧ nu t = t) ∨ (2 ≤ t.size ∧ byteAt t 0 = 48 ∧ byteAt t 1 = 120 ∧ nb t = 16 ∧ nu t = t.extract 2 t.size) ∨
    (2 ≤ t.size ∧ byteAt t 0 = 48 ∧ byteAt t 1 = 98 ∧ nb t = 2 ∧ nu t = t.extract 2 t.size) ∨ (2 ≤ t.size ∧ byteAt t 0 = 48 ∧ byteAt t 1 ≠ 120 ∧ byteAt t 1 ≠ 98 ∧ nb t = 10 ∧ nu t = t) := by
  by_cases h1 : 2 ≤ t.size
  · by_cases h2 : byteAt t 0 = 48
    · by_cases h3 : byteAt t 1 = 120
      · exact .inr (.inr (.inl ⟨h1, h2, h3, by simp [nb, h1, h2, h3], by simp [nu, h1, h2, h3]⟩))
      · by_cases h4 : byteAt t 1 = 98
        · exact .inr (.inr (.inr (.inl ⟨h1, h2, h4, by simp [nb, h1, h2, h4], by simp [nu, h1, h2, h4]⟩)))
        · exact .inr (.inr (.inr (.inr ⟨h1, h2, h3, h4, by simp [nb, h1, h2, h3, h4], by simp [nu, h3, h4]⟩)))
    · exact .inr (.inl ⟨h1, h2, by simp [nb, h2], by simp [nu, h2]⟩)
  · exact .inl ⟨by omega, by simp [nb, h1], by simp [nu, h1]⟩
theorem str_none (s : ByteArray) (h : s.size = 0) : s.toList.isEmpty = true := by
  rw [ByteArray.toList_eq]
  have e : s.data.toList.length = s.size := rfl
  rw [List.isEmpty_iff]
  exact List.eq_nil_of_length_eq_zero (by omega)
theorem byte_is (s : ByteArray) (k : Nat) (h : k < s.size) (c : Nat) (hc : byteAt s k = c) : ((s[k].toNat : Int) == (c : Int)) = true := by rw [byteAt_eq s k h, hc]; exact beq_self_eq_true _
theorem byte_isnt (s : ByteArray) (k : Nat) (h : k < s.size) (c : Nat) (hc : byteAt s k ≠ c) : ((s[k].toNat : Int) == (c : Int)) = false := by rw [byteAt_eq s k h, beq_eq_false_iff_ne]; omega

end Go.Proofs.YtkopjmofdnlplaaGreatDoor.Dig
