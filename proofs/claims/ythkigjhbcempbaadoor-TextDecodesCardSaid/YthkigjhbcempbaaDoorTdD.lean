/-
  PROVED HERE: the contracts of the program's begun, and of the document's begins whatever the bytes are. Conditions: as each theorem states.
-/
import Derived.Test.YthkigjhbcempbaaDoorTd2
import Derived.Test.YthkigjhbcempbaaDoorTd3
import Derived.Deep.DeepCutAuto
namespace Go.Proofs.YthkigjhbcempbaaDoor.Td
open Go.RowKit
theorem begins_far (s : ByteArray) (hs : 4 < s.size) (W : World) : Calls Tryd.prog 25 #[.string s] W (BPost false (-1) W) := by
  have t1 : (4 : Int) < (s.size : Int) := by omega
  clear hs
  go_enter Tryd.func25, Tryd.ntmps25
  go_wp2_with fail
  go_ret2
  exact ⟨rfl, Below.refl _ _⟩
theorem may_far (k b0 b1 b2 b3 : Nat) (h : 4 < k) : may k b0 b1 b2 b3 = false ∧ one k b0 b1 b2 b3 = if b0 < 128 then (b0 : Int) else -1 := by
  have hm : most b0 ≤ 4 := by unfold most; (repeat' split) <;> omega
  constructor
  · unfold may
    split
    · exact decide_eq_false (by omega)
    · exact decide_eq_false (by omega)
  · unfold one
    split
    · rfl
    · rw [if_neg (by omega)]
/-- The document's begins: a sign is told where the bytes may begin one. -/
theorem begins_any (s : ByteArray) (hs : 1 ≤ s.size) (W : World) : Calls Tryd.prog 25 #[.string s] W (fun e w' => ∃ i : Int, BPost (may s.size (byteAt s 0) (byteAt s 1) (byteAt s 2) (byteAt s 3)) i W e w' ∧ (may s.size (byteAt s 0) (byteAt s 1) (byteAt s 2) (byteAt s 3) = true → i = one s.size (byteAt s 0) (byteAt s 1) (byteAt s 2) (byteAt s 3))) := by
  have hb := byteAt_lt s 0
  by_cases h4 : 4 < s.size
  · have e := may_far s.size (byteAt s 0) (byteAt s 1) (byteAt s 2) (byteAt s 3) h4
    exact (begins_far s h4 W).mono fun e' w' h => ⟨-1, by rw [e.1]; exact h, fun h => by rw [e.1] at h; cases h⟩
  · rcases (show byteAt s 0 < 128 ∨ (128 ≤ byteAt s 0 ∧ byteAt s 0 < 192) ∨ (192 ≤ byteAt s 0 ∧ byteAt s 0 < 224) ∨ (224 ≤ byteAt s 0 ∧ byteAt s 0 < 240) ∨ (240 ≤ byteAt s 0 ∧ byteAt s 0 < 256) by omega) with h | h | h | h | h
    · have e1 : may s.size (byteAt s 0) (byteAt s 1) (byteAt s 2) (byteAt s 3) = decide (s.size = 1) := by unfold may; rw [if_pos h]
      have e2 : one s.size (byteAt s 0) (byteAt s 1) (byteAt s 2) (byteAt s 3) = byteAt s 0 := by unfold one; rw [if_pos h]
      exact (begins_ascii s ⟨hs, by omega⟩ h W).mono fun e' w' h => ⟨_, by rw [e1]; exact h, fun _ => e2.symm⟩
    · have e := fin_none s.size (byteAt s 0) (byteAt s 1) (byteAt s 2) (byteAt s 3) h
      exact (begins_none s ⟨hs, by omega⟩ h W).mono fun e' w' h => ⟨-1, by rw [e.1]; exact h, fun _ => e.2.symm⟩
    · exact (begins_2 s ⟨hs, by omega⟩ h W _ _ rfl rfl).mono fun e' w' h => ⟨_, h, fun _ => rfl⟩
    · exact (begins_3 s ⟨hs, by omega⟩ h W _ _ rfl rfl).mono fun e' w' h => ⟨_, h, fun _ => rfl⟩
    · exact (begins_4 s ⟨hs, by omega⟩ h W _ _ rfl rfl).mono fun e' w' h => ⟨_, h, fun _ => rfl⟩
def okk (b0 bk k : Nat) : Prop := (k = 1 ∧ lo b0 ≤ bk ∧ bk ≤ hi b0) ∨ (k ≠ 1 ∧ 128 ≤ bk ∧ bk ≤ 191)
theorem bgn_stop (n : Nat) (b : Nat → Nat) (k : Nat) (h1 : 1 ≤ k) (h2 : k ≤ most (b 0)) (h3 : ∀ j, 1 ≤ j → j < k → j < n ∧ okk (b 0) (b j) j) (h4 : k = most (b 0) ∨ n ≤ k ∨ ¬ okk (b 0) (b k) k) : bgn n (b 0) (b 1) (b 2) (b 3) = k := by
  have hm : most (b 0) ≤ 4 := by unfold most; (repeat' split) <;> omega
  have c1 := h3 1 (by omega)
  have c2 := h3 2 (by omega)
  have c3 := h3 3 (by omega)
  unfold okk at c1 c2 c3
  unfold bgn
  rcases (show k = 1 ∨ k = 2 ∨ k = 3 ∨ k = 4 by omega) with rfl | rfl | rfl | rfl
  all_goals
    unfold okk at h4
    (repeat' split) <;> omega
def GRel (s : ByteArray) (low high k : Value) : Prop := ∃ (q L H : Nat), 1 ≤ q ∧ q ≤ s.size ∧ q ≤ 4 ∧ k = .int .i64 (q : Int) ∧ low = .int .u8 (L : Int) ∧ high = .int .u8 (H : Int) ∧ L ≤ 255 ∧ H ≤ 255 ∧ Hid (q ≤ most (byteAt s 0)) ∧ Hid ((q = 1 ∧ L = lo (byteAt s 0) ∧ H = hi (byteAt s 0)) ∨ (q ≠ 1 ∧ L = 128 ∧ H = 191)) ∧ Hid (∀ j, 1 ≤ j → j < q → j < s.size ∧ okk (byteAt s 0) (byteAt s j) j)
set_option maxRecDepth 100000 in
set_option maxHeartbeats 2000000 in
theorem begun_any (s : ByteArray) (hs : 1 ≤ s.size) (hs2 : s.size ≤ 1000) (W : World) (r : Nat) (hr : bgn s.size (byteAt s 0) (byteAt s 1) (byteAt s 2) (byteAt s 3) = r) : Calls Tryd.prog 27 #[.string s] W fun e w' => e = .returned (.int .i64 (r : Int)) ∧ W = w' := by
  have h0 : 0 < s.size := hs
  have t0 : (0 : Int) < (s.size : Int) := by omega
  have hb := byteAt_eq s 0 h0
  have hc := byteAt_lt s 0
  have hrH := Lib.hid hr
  clear hr hs
  generalize hcb : byteAt s 0 = c at hb hc
  have hcH := Lib.hid hcb
  clear hcb
  obtain ⟨m, hm⟩ : ∃ m, most c = m := ⟨_, rfl⟩
  have M := Lib.hid hm
  clear hm
  go_enter Tryd.func27, Tryd.ntmps27
  have LI := Lib.hid (lo_is c)
  have HI := Lib.hid (hi_is c)
  go_wp2_with fail
  all_goals
    have T0 : True := trivial
    have mE : (194 ≤ c ∧ c ≤ 223 ∧ m = 2) ∨ (224 ≤ c ∧ c ≤ 239 ∧ m = 3) ∨ (240 ≤ c ∧ c ≤ 244 ∧ m = 4) ∨ ((c < 194 ∨ 244 < c) ∧ m = 1) := by
      have := M.out; clear LI HI; unfold most at this; (repeat' split at this) <;> omega
    have LE : ∃ L0, lo c = L0 := ⟨_, rfl⟩
    obtain ⟨L0, hL0⟩ := LE
    have HE : ∃ L0, hi c = L0 := ⟨_, rfl⟩
    obtain ⟨H0, hH0⟩ := HE
    have lb : L0 ≤ 255 := by have := LI.out; omega
    have hbd : H0 ≤ 255 := by have := HI.out; omega
    have mm : 1 ≤ m := by omega
    have LC := Lib.hid LI.out
    have HC := Lib.hid HI.out
    rw [hL0] at LC
    rw [hH0] at HC
    have E0 := Lib.hid (show (1 = 1 ∧ L0 = lo (byteAt s 0) ∧ H0 = hi (byteAt s 0)) ∨ (1 ≠ 1 ∧ L0 = 128 ∧ H0 = 191) by rw [hcH.out]; exact .inl ⟨rfl, hL0.symm, hH0.symm⟩)
    have mEH := Lib.hid mE
    clear hL0 hH0 mE LI HI
    first
      | ((obtain rfl : m = 2; (· have := mEH.out; omega)); have mI := Lib.hid (show ((most c : Nat) : Int) = 2 by rw [M.out]; rfl))
      | ((obtain rfl : m = 3; (· have := mEH.out; omega)); have mI := Lib.hid (show ((most c : Nat) : Int) = 3 by rw [M.out]; rfl))
      | ((obtain rfl : m = 4; (· have := mEH.out; omega)); have mI := Lib.hid (show ((most c : Nat) : Int) = 4 by rw [M.out]; rfl))
      | ((obtain rfl : m = 1; (· have := mEH.out; omega)); have mI := Lib.hid (show ((most c : Nat) : Int) = 1 by rw [M.out]; rfl))
    go_loop [3, 4, 7] (fun low high k => GRel s low high k) (fun _ _ k => 5 - (intOf k).toNat)
    case atStart => exact ⟨1, L0, H0, Nat.le_refl _, by omega, by omega, rfl, congrArg (Value.int .u8) (by have := LC.out; simp only [beq_iff_eq, beq_eq_false_iff_ne] at *; omega), congrArg (Value.int .u8) (by have := HC.out; simp only [beq_iff_eq, beq_eq_false_iff_ne] at *; omega), lb, hbd, Lib.hid (by rw [hcH.out, M.out]; exact mm), E0, Lib.hid (fun j a b => absurd a (by omega))⟩
    case round =>
      clear E0
      obtain ⟨q, L, H, q1, q2, q4, rfl, rfl, rfl, hL, hH, qm, LH, ok⟩ := hrel
      have B := Lib.hid (bgn_stop s.size (byteAt s) q q1 qm.out ok.out)
      rw [hcH.out, M.out] at B
      rcases Nat.lt_or_ge q (most c) with c1 | c1
      · have c1i : (q : Int) < ((most c : Nat) : Int) := by omega
        rw [mI.out] at c1i
        by_cases c2 : q < s.size
        · have hbk := byteAt_eq s q c2
          have hbl := byteAt_lt s q
          generalize hdb : byteAt s q = d at hbk hbl
          have hdH := Lib.hid hdb
          clear hdb
          have i2 : (q : Int) < (s.size : Int) := by omega
          by_cases c3 : L ≤ d
          · by_cases c4 : d ≤ H
            · have D3 : decide (L ≤ d) = true := decide_eq_true c3
              have D4 : decide (d ≤ H) = true := decide_eq_true c4
              have OK := Lib.hid (show okk (byteAt s 0) (byteAt s q) q by
                rw [hdH.out]
                rcases LH.out with ⟨a, b, e⟩ | ⟨a, b, e⟩
                · exact .inl ⟨a, b ▸ c3, e ▸ c4⟩
                · exact .inr ⟨a, b ▸ c3, e ▸ c4⟩)
              have Q := Lib.hid (show q + 1 ≤ most (byteAt s 0) by rw [hcH.out]; exact c1)
              have c1b := Lib.hid (show q < 4 by have := M.out; omega)
              clear c3 c4 c1
              have NX := Lib.hid (show ∀ j, 1 ≤ j → j < q + 1 → j < s.size ∧ okk (byteAt s 0) (byteAt s j) j from fun j a b => by
                by_cases e : j = q
                · rw [e]; exact ⟨c2, OK.out⟩
                · exact ok.out j a (by omega))
              have R1 : GRel s (.int .u8 128) (.int .u8 191) (.int .i64 ((q : Int) + 1)) := ⟨q + 1, 128, 191, by omega, by omega, by have := c1b.out; omega, by go_num, rfl, rfl, by omega, by omega, Q, Lib.hid (.inr ⟨by omega, rfl, rfl⟩), NX⟩
              have R := Lib.hid R1
              clear R1
              go_wp2_with fail
              go_round
              case rel => first | exact R.out | ((repeat apply Exists.intro); first | exact ⟨R.out, rfl⟩ | exact ⟨R.out, rfl, rfl, rfl⟩)
              case measure => simp [intOf]; omega
            · have D3 : decide (L ≤ d) = true := decide_eq_true c3
              have D4 : decide (d ≤ H) = false := decide_eq_false c4
              have F := Lib.hid (show r = q by
                rw [← hrH.out, hcH.out]
                refine B.out (.inr (.inr ?_))
                rw [hdH.out]
                intro e
                have := LH.out
                rw [hcH.out] at this
                unfold okk at e
                omega)
              clear c3 c4
              go_wp2_with fail
              go_ret
              exact ⟨ret_int (by rw [F.out]), rfl⟩
          · have D3 : decide (L ≤ d) = false := decide_eq_false c3
            have F := Lib.hid (show r = q by
                rw [← hrH.out, hcH.out]
                refine B.out (.inr (.inr ?_))
                rw [hdH.out]
                intro e
                have := LH.out
                rw [hcH.out] at this
                unfold okk at e
                omega)
            clear c3
            go_wp2_with fail
            go_ret
            exact ⟨ret_int (by rw [F.out]), rfl⟩
        · have i2 : ¬ (q : Int) < (s.size : Int) := by omega
          have F := Lib.hid (show r = q by rw [← hrH.out, hcH.out]; exact B.out (.inr (.inl (by omega))))
          go_wp2_with fail
          go_ret
          exact ⟨ret_int (by rw [F.out]), rfl⟩
      · have F := Lib.hid (show r = q by rw [← hrH.out, hcH.out]; have := qm.out; rw [hcH.out] at this; exact B.out (.inl (by have := M.out; omega)))
        have i1 : decide ((q : Int) < ((most c : Nat) : Int)) = false := decide_eq_false (by omega)
        rw [mI.out] at i1
        clear c1
        go_wp2_with fail
        go_ret
        exact ⟨ret_int (by rw [F.out]), rfl⟩
end Go.Proofs.YthkigjhbcempbaaDoor.Td
