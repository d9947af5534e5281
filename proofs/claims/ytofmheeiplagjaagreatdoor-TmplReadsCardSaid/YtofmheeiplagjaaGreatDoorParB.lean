/-
  PROVED HERE: the contract of the document's DigitsParse. Conditions: as each theorem states.
-/
import Derived.Test.YtofmheeiplagjaaGreatDoorParA
import Derived.Test.YtofmheeiplagjaaGreatDoorShelf
import Derived.Laws.Externs
namespace Go.Proofs.YtofmheeiplagjaaGreatDoor.Dig
open Go.RowKit

theorem add64 (x y : Nat) (w : World) : (callFunc 106 #[.int .u64 x, .int .u64 y, .int .u64 0]).run Tryz.prog w = .ok (.value (.tuple #[.int .u64 (((x + y) % 18446744073709551616 : Nat) : Int), .int .u64 (((x + y) / 18446744073709551616 : Nat) : Int)])) w := by
  rw [run_callFunc_extern Tryz.func106 (by kernel_rfl) (by kernel_rfl) (by kernel_rfl) (e := add64Entry) (by kernel_rfl), run_add64 x y 0 (by omega) (by omega) (by omega) (by omega)]
  simp only [Result.andThen]
  congr 5 <;> omega
def b01 (o : Bool) : Nat := if o then 1 else 0
/-- Whether there is more than 64 bits, as the document asks. -/
theorem more_iff (n b d : Nat) (hd : d < 18446744073709551616) : (0 < n * b / 18446744073709551616 + (n * b % 18446744073709551616 + d) / 18446744073709551616) ↔ 18446744073709551616 ≤ n * b + d := by
  generalize n * b = m
  omega
theorem more_le (n b d : Nat) (hn : n < 18446744073709551616) (hb : b ≤ 16) (hd : d < 16) : n * b / 18446744073709551616 + (n * b % 18446744073709551616 + d) / 18446744073709551616 ≤ 17 := by
  have : n * b ≤ 18446744073709551616 * 16 := Nat.mul_le_mul (by omega) hb
  generalize n * b = m at *
  omega
theorem low_is (n b d : Nat) : (n * b % 18446744073709551616 + d) % 18446744073709551616 = (n * b + d) % 18446744073709551616 := by
  generalize n * b = m
  omega

set_option maxRecDepth 100000 in
set_option maxHeartbeats 1000000 in
theorem docParse_yes (s : ByteArray) (b : Nat) (hb : 2 ≤ b ∧ b ≤ 16) (hs : s.size ≤ 1000) (W : World) :
    Calls Tryz.prog 92 #[.string s, .int .i64 b] W fun e w' => e = .returned (.tuple #[.int .u64 (pv s b : Nat), .int .i64 (pe s b)]) ∧ Below W.heap.size W w' := by
  obtain ⟨hb1, hb2⟩ := hb
  by_cases h0 : s.size = 0
  · have hv : pv s b = 0 := by unfold pv; rw [if_pos (.inl h0)]
    have he : pe s b = 3 := by unfold pe; rw [if_pos (.inl h0)]
    rw [hv, he]
    have hz : s.toList.isEmpty = true := by
      rw [ByteArray.toList_eq]
      have e : s.data.toList.length = s.size := rfl
      rw [List.isEmpty_iff]
      exact List.eq_nil_of_length_eq_zero (by omega)
    clear hv he h0
    go_enter Tryz.func92, Tryz.ntmps92
    go_wp2_with fail
    refine (Ref.within_yes _ _ _ (by omega) (by omega) _).mono ?_; rintro e w' ⟨rfl, rfl⟩
    go_wp2_with fail
    go_ret2
    exact ⟨rfl, Below.refl _ _⟩
  have hz := str_full s (by omega)
  have FORM : Hid (badB s b = true → pv s b = 0 ∧ pe s b = 3) := Lib.hid (fun h => by
    unfold pv pe; rw [if_pos (.inr (.inl h)), if_pos (.inr h)]; exact ⟨rfl, rfl⟩)
  have OVER : Hid (badB s b = false → po s b s.size = true → pv s b = 0 ∧ pe s b = 2) := Lib.hid (fun h h2 => by
    unfold pv pe; rw [if_pos (.inr (.inr h2)), if_neg (by simp [h0, h]), if_pos h2]; exact ⟨rfl, rfl⟩)
  have GOOD : Hid (badB s b = false → po s b s.size = false → pv s b = pn s b s.size ∧ pe s b = 0) := Lib.hid (fun h h2 => by
    unfold pv pe; rw [if_neg (by simp [h0, h, h2]), if_neg (by simp [h0, h]), if_neg (by simp [h2])]; exact ⟨rfl, rfl⟩)
  generalize pv s b = V at *
  generalize pe s b = E at *
  have hadd : ∀ (x y : Nat) (w : World), (callFunc 106 #[.int .u64 x, .int .u64 y, .int .u64 0]).run Tryz.prog w = .ok (.value (.tuple #[.int .u64 (((x + y) % 18446744073709551616 : Nat) : Int), .int .u64 (((x + y) / 18446744073709551616 : Nat) : Int)])) w := add64
  go_enter Tryz.func92, Tryz.ntmps92
  go_wp2_with fail
  refine (Ref.within_yes _ _ _ (by omega) (by omega) _).mono ?_; rintro e w' ⟨rfl, rfl⟩
  go_wp2_with fail
  go_loopw [6, 7, 8] (fun o n i wr => ∃ k : Nat, k ≤ s.size ∧ i = .int .i64 k ∧ n = .int .u64 (pn s b k : Nat) ∧ (∃ h : Nat, h ≤ 1 ∧ o = .int .u64 h ∧ Hid (h = b01 (po s b k))) ∧ Hid (∀ j, j < k → ¬ (dd s j < 0 ∨ (b : Int) ≤ dd s j)) ∧ Below W.heap.size W wr) (fun _ _ i _ => s.size - (intOf i).toNat)
  case atStart => exact ⟨0, Nat.zero_le _, rfl, rfl, ⟨0, by omega, rfl, Lib.hid rfl⟩, Lib.hid (fun j hj => by omega), Below.refl _ _⟩
  case round =>
    obtain ⟨k, hk, rfl, rfl, ⟨h, hh1, rfl, hhb⟩, hg, hB⟩ := hrel
    have hBH := Lib.hid hB
    clear hB
    have hn := pn_lt s b k
    by_cases hlt : k < s.size
    · have hbb := Lib.hid (byteAt_eq s k hlt)
      have hb3 : s[k].toNat < 256 := UInt8.toNat_lt _
      have ed : Hid (dig (s[k].toNat : Int) = dd s k) := Lib.hid (by rw [hbb.out]; rfl)
      have dB := dig_bounds' s k
      by_cases hbad : dd s k < 0 ∨ (b : Int) ≤ dd s k
      · have hF := FORM.out (badB_yes s b k hlt hbad)
        obtain ⟨hV, hE⟩ := hF
        subst hV hE
        generalize pn s b k = n at *
        generalize dd s k = d at *
        go_wp2_with fail
        refine (docDigit_any _ (by omega) (by omega) _).mono ?_; rintro e w1 ⟨rfl, hb1'⟩
        have hW1 := Lib.hid (hBH.out.trans (hb1'.mono hBH.out.size))
        clear hb1'
        rw [ed.out]
        go_wp2_with fail
        refine (Ref.within_no _ _ _ (by omega) _).mono ?_; rintro e w' ⟨rfl, rfl⟩
        go_wp2_with fail
        go_ret2
        exact ⟨rfl, hW1.out⟩
      · have hd0 : 0 ≤ dd s k := by omega
        have hdb : dd s k < b := by omega
        have hg2 : Hid (∀ j, j < k + 1 → ¬ (dd s j < 0 ∨ (b : Int) ≤ dd s j)) := Lib.hid (fun j hj => by
          rcases Nat.lt_succ_iff_lt_or_eq.1 hj with h | rfl
          · exact hg.out j h
          · exact hbad)
        have hS : Hid (pn s b (k + 1) = (pn s b k * b + (dd s k).toNat) % 18446744073709551616) := Lib.hid rfl
        have hO : Hid (po s b (k + 1) = (po s b k || decide (18446744073709551616 ≤ pn s b k * b + (dd s k).toNat))) := Lib.hid rfl
        obtain ⟨d, hd⟩ := Int.eq_ofNat_of_zero_le hd0
        rw [hd, Int.toNat_natCast] at hS hO
        rw [hd] at ed hdb
        have hdb' : d < b := by omega
        have hI := Lib.hid (more_iff (pn s b k) b d (by omega))
        have hL := Lib.hid (low_is (pn s b k) b d)
        have hM := more_le (pn s b k) b d hn hb2 (by omega)
        clear hd hd0 hbad hdb dB
        generalize pn s b k = n at *
        generalize po s b k = o at *
        go_wp2_with fail
        refine (docDigit_any _ (by omega) (by omega) _).mono ?_; rintro e w1 ⟨rfl, hb1'⟩
        have hW1 := Lib.hid (hBH.out.trans (hb1'.mono hBH.out.size))
        clear hb1'
        rw [ed.out]
        go_wp2_with fail
        refine (Ref.within_yes _ _ _ (by omega) (by omega) _).mono ?_; rintro e w' ⟨rfl, rfl⟩
        go_wp2_with fail
        refine (Tryz.bits_Mul64 n b hn (by omega) _).mono ?_; rintro e w' ⟨rfl, rfl⟩
        have hfin : Hid (∀ m : Nat, ((0 < n * b / 18446744073709551616 + (n * b % 18446744073709551616 + d) / 18446744073709551616 ∨ 0 < h) → m = 1) → ((¬ (0 < n * b / 18446744073709551616 + (n * b % 18446744073709551616 + d) / 18446744073709551616 ∨ 0 < h)) → m = 0) → m = b01 (po s b (k + 1))) := Lib.hid (fun m m1 m2 => by
          rw [hO.out]
          have h1 := hhb.out
          cases o with
          | true =>
            rw [m1 (.inr (by rw [h1]; decide))]; rfl
          | false =>
            by_cases hc : 18446744073709551616 ≤ n * b + d
            · rw [m1 (.inl (hI.out.2 hc)), decide_eq_true hc]; rfl
            · rw [m2 (fun hx => by
                rcases hx with hx | hx
                · exact hc (hI.out.1 hx)
                · rw [h1] at hx; revert hx; decide), decide_eq_false hc]; rfl)
        generalize n * b / 18446744073709551616 = X at *
        generalize n * b % 18446744073709551616 = Y at *
        clear hadd
        have ha2 := fun w => add64 Y d w
        rcases (show (0 < X + (Y + d) / 18446744073709551616 ∨ 0 < h) ∨ (X + (Y + d) / 18446744073709551616 ≤ 0 ∧ h ≤ 0) by omega) with hc | ⟨c1, c2⟩
        · have hm := Lib.hid (hfin.out 1 (fun _ => rfl) (fun hx => absurd hc hx))
          rcases (show 0 < X + (Y + d) / 18446744073709551616 ∨ (X + (Y + d) / 18446744073709551616 ≤ 0 ∧ 0 < h) by omega) with c1 | ⟨c1, c2⟩
          all_goals
            go_wp2_with fail
            go_roundw
            case rel => exact ⟨k + 1, by omega, by go_num, by rw [hS.out, ← hL.out]; simp, ⟨1, by omega, rfl, hm⟩, hg2, hW1.out⟩
            case measure => simp [intOf]; omega
        · have hm := Lib.hid (hfin.out 0 (fun hx => by omega) (fun _ => rfl))
          have h0' : h = 0 := by omega
          subst h0'
          go_wp2_with fail
          go_roundw
          case rel => exact ⟨k + 1, by omega, by go_num, by rw [hS.out, ← hL.out]; simp, ⟨0, by omega, rfl, hm⟩, hg2, hW1.out⟩
          case measure => simp [intOf]; omega
    · obtain rfl : k = s.size := by omega
      have hF : badB s b = false := badB_no s b hg.out
      cases ho : po s b s.size with
      | true =>
        obtain ⟨hV, hE⟩ := OVER.out hF ho
        subst hV hE
        have hp : 0 < h := by rw [hhb.out, ho]; decide
        clear ho
        go_wp2_with fail
        go_ret2
        exact ⟨rfl, hBH.out⟩
      | false =>
        obtain ⟨hV, hE⟩ := GOOD.out hF ho
        subst hV hE
        have hp : ¬ 0 < h := by rw [hhb.out, ho]; decide
        clear ho
        generalize hpn : pn s b s.size = n at *
        have hpnH := Lib.hid hpn
        clear hpn
        go_wp2_with fail
        go_ret2
        exact ⟨by rw [hpnH.out]; rfl, hBH.out⟩
end Go.Proofs.YtofmheeiplagjaaGreatDoor.Dig
