/-
  PROVED HERE: the contract of the document's times. Conditions: as each theorem states.
-/
import Derived.Test.YtgkmjkjcdjkffaaDoorKeyD
namespace Go.Proofs.YtgkmjkjcdjkffaaDoor.Key
open Go.RowKit
theorem isD_of (n : Nat) (c : UInt8) : isD n c = (decide (48 ≤ c.toNat ∧ c.toNat ≤ 57) && (decide (0 < n) || decide (c.toNat ≠ 48))) := by
  unfold isD
  congr 1
  congr 1
  by_cases h : c = 48
  · subst h; rfl
  · have : c.toNat ≠ 48 := fun e => h (UInt8.toNat_inj.1 e)
    rw [decide_eq_true this, bne_iff_ne]; exact h
theorem ct_no (n : Nat) (u : ByteArray) (h : 0 < u.size) (hn : u[0].toNat < 48 ∨ 57 < u[0].toNat ∨ (n = 0 ∧ u[0].toNat = 48)) : ct n (lst u) = (n, lst u) := by
  rw [lst_cons u h, ct, if_neg]
  rw [isD_of]
  intro e
  simp only [Bool.and_eq_true, Bool.or_eq_true, decide_eq_true_eq] at e
  omega
theorem ct_yes (n : Nat) (u : ByteArray) (h : 0 < u.size) (h1 : 48 ≤ u[0].toNat) (h2 : u[0].toNat ≤ 57) (h3 : 0 < n ∨ u[0].toNat ≠ 48) : ct n (lst u) = ct (min (n * 10 + (u[0].toNat - 48)) 9999) (lst (u.extract 1 u.size)) := by
  rw [lst_cons u h, ct, if_pos]
  rw [isD_of]
  simp only [Bool.and_eq_true, Bool.or_eq_true, decide_eq_true_eq]
  exact ⟨⟨h1, h2⟩, h3⟩
theorem ct_le (l : List UInt8) : ∀ n, n ≤ 9999 → (ct n l).1 ≤ 9999 := by
  induction l with
  | nil => intro n h; exact h
  | cons c r ih =>
    intro n h
    rw [ct]
    split
    · exact ih _ (Nat.min_le_right _ _)
    · exact h
def TP (s : ByteArray) (W : World) (e : Ending) (w' : World) : Prop := ∃ t : ByteArray, lst t = (ct 0 (lst s)).2 ∧ t.size ≤ s.size ∧ e = .returned (.tuple #[.int .i64 (ct 0 (lst s)).1, .string t]) ∧ W = w'
set_option maxRecDepth 100000 in
set_option maxHeartbeats 1000000 in
theorem docTimes_any (s : ByteArray) (_hs : s.size ≤ 1000) (W : World) : Calls Tryd.prog 26 #[.string s] W (TP s W) := by
  go_enter Tryd.func26, Tryd.ntmps26
  go_wp2_with fail
  go_loop [0, 4] (fun t n => ∃ u : ByteArray, ∃ m : Nat, t = .string u ∧ n = .int .i64 m ∧ u.size ≤ s.size ∧ m ≤ 9999 ∧ Hid (ct m (lst u) = ct 0 (lst s))) (fun t _ => (match t with | .string u => u.size | _ => 0))
  case atStart => exact ⟨s, 0, rfl, rfl, Nat.le_refl _, by omega, Lib.hid rfl⟩
  case round =>
    obtain ⟨u, m, rfl, rfl, hu, hm, hc⟩ := hrel
    by_cases h : 0 < u.size
    · have hf := str_full u (by omega)
      have hts := lst_tail_size u h
      have hu8 := u8_lt u[0]
      by_cases hn : u[0].toNat < 48 ∨ 57 < u[0].toNat ∨ (m = 0 ∧ u[0].toNat = 48)
      · have hC := hc.out
        rw [ct_no m u h hn] at hC
        have hCH := Lib.hid hC
        clear hc hC
        rcases (show (u[0].toNat < 48 ∨ 57 < u[0].toNat) ∨ (m = 0 ∧ u[0].toNat = 48) by omega) with g | ⟨rfl, g⟩
        · have D := Lib.hid (docIsDigit_no u[0] g)
          clear hn g
          go_wp2_with fail
          refine (D.out _).mono ?_; rintro e w' ⟨rfl, rfl⟩
          go_wp2_with fail
          go_ret2
          have := hCH.out
          exact ⟨u, by rw [← this], by omega, by rw [← this]; rfl, rfl⟩
        · have D := Lib.hid (docIsDigit_yes u[0] (by omega) (by omega))
          have b1 : ((u[0].toNat : Int) != 48) = false := by rw [bne_eq_false_iff_eq]; omega
          clear hn g
          go_wp2_with fail
          refine (D.out _).mono ?_; rintro e w' ⟨rfl, rfl⟩
          go_wp2_with fail
          go_ret2
          have := hCH.out
          exact ⟨u, by rw [← this], by omega, by rw [← this]; rfl, rfl⟩
      · have h1 : 48 ≤ u[0].toNat := by omega
        have h2 : u[0].toNat ≤ 57 := by omega
        have h3 : 0 < m ∨ u[0].toNat ≠ 48 := by omega
        have hC := hc.out
        rw [ct_yes m u h h1 h2 h3] at hC
        have hCH := Lib.hid hC
        have D := Lib.hid (docIsDigit_yes u[0] h1 h2)
        clear hc hC hn
        have hu2 : (u.extract 1 u.size).size ≤ s.size := by omega
        have hm2 : min (m * 10 + (u[0].toNat - 48)) 9999 ≤ 9999 := Nat.min_le_right _ _
        have hsub : ((u[0].toNat : Int) - 48) = ((u[0].toNat - 48 : Nat) : Int) := by omega
        rcases (show 0 < m ∨ (m = 0 ∧ u[0].toNat ≠ 48) by omega) with g | ⟨rfl, g⟩
        · clear h3
          go_wp2_with fail
          refine (D.out _).mono ?_; rintro e w' ⟨rfl, rfl⟩
          go_wp2_with fail
          go_round
          case rel => exact ⟨_, _, rfl, congrArg (Value.int .i64) (by omega), hu2, hm2, hCH⟩
          case measure => simp; omega
        · have b1 : ((u[0].toNat : Int) != 48) = true := by rw [bne_iff_ne]; omega
          clear h3 g
          go_wp2_with fail
          refine (D.out _).mono ?_; rintro e w' ⟨rfl, rfl⟩
          go_wp2_with fail
          go_round
          case rel => exact ⟨_, _, rfl, congrArg (Value.int .i64) (by omega), hu2, hm2, hCH⟩
          case measure => simp; omega
    · have hf := str_none u (by omega)
      have hC := hc.out
      rw [lst_nil h, ct] at hC
      have hCH := Lib.hid hC
      have hl := Lib.hid (lst_nil h)
      clear hc hC
      go_wp2_with fail
      go_ret2
      have := hCH.out
      exact ⟨u, by rw [← this, hl.out], by omega, by rw [← this]; rfl, rfl⟩
end Go.Proofs.YtgkmjkjcdjkffaaDoor.Key
