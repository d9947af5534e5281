/-
  PROVED HERE: the contract of the document's begins where the first byte is a lead of 3. Conditions: as each theorem states.
-/
import Derived.Test.YthkigjhbcempbaaDoorTdB
namespace Go.Proofs.YthkigjhbcempbaaDoor.Td
open Go.RowKit
set_option maxRecDepth 100000 in
set_option maxHeartbeats 2000000 in
theorem begins_3 (s : ByteArray) (hs : 1 ≤ s.size ∧ s.size ≤ 4) (h : 224 ≤ byteAt s 0 ∧ byteAt s 0 < 240) (W : World) (r : Bool) (x : Int) (hr : may s.size (byteAt s 0) (byteAt s 1) (byteAt s 2) (byteAt s 3) = r) (hx : one s.size (byteAt s 0) (byteAt s 1) (byteAt s 2) (byteAt s 3) = x) : Calls Tryd.prog 25 #[.string s] W (BPost r x W) := by
  obtain ⟨h1, h4⟩ := hs
  have hl := Lib.hid (show led 3 (byteAt s 0) from .inr (.inl ⟨rfl, h⟩))
  obtain ⟨h5, h6⟩ := h
  have h0 : 0 < s.size := h1
  have hb := byteAt_eq s 0 h0
  have hrH := Lib.hid hr
  have hxH := Lib.hid hx
  clear hr hx
  generalize hcb : byteAt s 0 = c at h5 h6 hb
  have hcH := Lib.hid hcb
  clear hcb
  have t0 : (0 : Int) < (s.size : Int) := by omega
  have t1 : ¬ (4 : Int) < (s.size : Int) := by omega
  have t4 := Lib.hid h4
  have d0 : decide ((240 : Int) ≤ (c : Int)) = false := decide_eq_false (by omega)
  have d1 : decide ((224 : Int) ≤ (c : Int)) = true := decide_eq_true (by omega)
  have hc : (c : Int) ≤ 255 := by omega
  have hcl := Lib.hid h5
  clear h5 h6 h1 h4
  have E1 := Lib.hid (lw0_3 (byteAt s) (by rw [hcH.out]; exact hcl.out))
  have E2 := Lib.hid (hg0_3 (byteAt s) (by rw [hcH.out]; exact hcl.out))
  rw [hcH.out] at E1 E2
  go_enter Tryd.func25, Tryd.ntmps25
  go_wp2_with fail
  all_goals
    go_loopw [5, 6, 8] (fun low high k wr => BR 3 s W low high k wr) (fun _ _ k _ => 5 - (intOf k).toNat)
    case atStart => exact ⟨0, lw 3 (byteAt s) 0, hg 3 (byteAt s) 0, by omega, rfl, congrArg (Value.int .i64) (by have := E1.out; omega), congrArg (Value.int .i64) (by have := E2.out; omega), by omega, by have := E1.out; omega, by have := E2.out; omega, Lib.hid rfl, Lib.hid rfl, Lib.hid (by intro j a b; omega), Lib.hid (Below.refl _ _)⟩
    case round =>
      obtain ⟨q, L, U, hq, rfl, rfl, rfl, hqn, hL, hU, eL, eU, hcont, hB⟩ := hrel
      by_cases hlt : q + 1 < s.size
      · have hlt' : (q : Int) + 1 < (s.size : Int) := by omega
        have hbk := byteAt_eq s (q + 1) hlt
        have hbl := byteAt_lt s (q + 1)
        generalize hcb : byteAt s (q + 1) = d at hbk hbl
        have hdH := Lib.hid hcb
        clear hcb
        have EW := Lib.hid (fun W => Ref.within_any (d : Int) 128 191 W)
        by_cases hcn : 128 ≤ d ∧ d ≤ 191
        · have ew : decide ((128 : Int) ≤ (d : Int) ∧ (d : Int) ≤ 191) = true := decide_eq_true (by omega)
          rw [ew] at EW
          have hcnH := Lib.hid hcn
          clear ew hcn
          by_cases hqt : q + 1 < 3
          · go_wp2_with fail
            refine (EW.out _).mono ?_; rintro e w' ⟨rfl, rfl⟩
            have g4 : (q : Int) + 1 < 3 := by omega
            obtain ⟨T, hT⟩ : ∃ T, st 3 (q + 1) = T := ⟨_, rfl⟩
            have T1 := st_bd 3 (q + 1) (by decide)
            have hvb := val_bd 3 (byteAt s) hl.out (q + 1) (by omega) (cont_next hcont.out (by rw [hdH.out]; exact hcnH.out))
            obtain ⟨B, hBq⟩ : ∃ B, bs 3 (byteAt s) (q + 1) = B := ⟨_, rfl⟩
            have hpos := st_pos 3 (q + 1)
            unfold val at hvb
            rw [hT] at hvb T1 hpos
            rw [hBq] at hvb
            have P1 : (B : Int) * (T : Int) ≤ 4194304 := by have : ((B * T : Nat) : Int) = (B : Int) * (T : Int) := Int.natCast_mul _ _; omega
            have P2 : (B : Int) * (T : Int) + (T : Int) ≤ 4194304 := by have : ((B * T : Nat) : Int) = (B : Int) * (T : Int) := Int.natCast_mul _ _; omega
            have P3 : 0 ≤ (B : Int) * (T : Int) := by have : ((B * T : Nat) : Int) = (B : Int) * (T : Int) := Int.natCast_mul _ _; omega
            have HT := Lib.hid hT
            have HBq := Lib.hid hBq
            clear hT hBq hvb
            go_wp2_with (go_at_call 39; refine (pow_st 3 (q + 1) _ (by omega) (by omega) (by decide) T HT _).mono ?_; rintro e w' ⟨rfl, rfl⟩)
            go_loopw [10, 11] (fun base j wr2 => ∃ i V : Nat, i ≤ q + 2 ∧ j = .int .i64 (i : Int) ∧ base = .int .i64 (V : Int) ∧ Hid (i = 0 ∧ V = 0 ∨ 1 ≤ i ∧ V = bs 3 (byteAt s) (i - 1)) ∧ Hid (Below wr.heap.size wr wr2)) (fun _ j _ => q + 3 - (intOf j).toNat)
            case atStart => exact ⟨0, 0, by omega, rfl, rfl, Lib.hid (.inl ⟨rfl, rfl⟩), Lib.hid (Below.refl _ _)⟩
            case round =>
              obtain ⟨i, V, hi, rfl, rfl, hV, hB2⟩ := hrel
              by_cases hiq : i ≤ q + 1
              · rcases Nat.eq_zero_or_pos i with rfl | hip
                · obtain rfl : V = 0 := by have := hV.out; omega
                  go_wp2_with fail
                  go_roundw
                  case rel => exact ⟨1, bs 3 (byteAt s) 0, by omega, by go_num, congrArg (Value.int .i64) (by have e : bs 3 (byteAt s) 0 = c - 224 := by show byteAt s 0 - 224 = _; rw [hcH.out]
                                                                                                              rw [e]; have := hcl.out; omega), Lib.hid (.inr ⟨Nat.le_refl _, rfl⟩), Lib.hid (hB2.out.alloc hB2.out.size _)⟩
                  case measure => first | (simp [intOf]; done) | (simp [intOf]; omega)
                · obtain ⟨i, rfl⟩ : ∃ i', i = i' + 1 := ⟨i - 1, by omega⟩
                  have hV2 : bs 3 (byteAt s) i = V := by rcases hV.out with a | a; exact absurd a.1 (by omega); exact a.2.symm
                  have hiz : i + 1 < s.size := by omega
                  have hiz' : (i : Int) + 1 < (s.size : Int) := by omega
                  have hbi := byteAt_eq s (i + 1) hiz
                  have hbb : 128 ≤ byteAt s (i + 1) ∧ byteAt s (i + 1) ≤ 191 := by
                    by_cases e : i + 1 = q + 1
                    · rw [e, hdH.out]; exact hcnH.out
                    · exact hcont.out (i + 1) (by omega) (by omega)
                  have hbs : bs 3 (byteAt s) (i + 1) = V * 64 + (byteAt s (i + 1) - 128) := by have e : bs 3 (byteAt s) (i + 1) = bs 3 (byteAt s) i * 64 + (byteAt s (i + 1) - 128) := rfl; rw [e, hV2]
                  have hVb : V ≤ 262143 := by
                    have hiq2 : i ≤ q := by omega
                    have hi2 : i ≤ 2 := by omega
                    have hh := bs_small 3 (byteAt s) hl.out i hi2 (fun j a b => (hcont.out j a (Nat.le_trans b hiq2)).2)
                    rw [hV2] at hh
                    exact hh
                  obtain ⟨g, hg⟩ : ∃ g, byteAt s (i + 1) = g := ⟨_, rfl⟩
                  rw [hg] at hbi hbb hbs
                  obtain ⟨hb1, hb2⟩ := hbb
                  have HB3 := Lib.hid hbs
                  have HV2 := Lib.hid hV2
                  clear hbs hV2 hg
                  go_wp2_with fail
                  go_roundw
                  case rel => exact ⟨i + 2, bs 3 (byteAt s) (i + 1), by omega, by go_num, congrArg (Value.int .i64) (by rw [HB3.out]; omega), Lib.hid (.inr ⟨by omega, rfl⟩), hB2⟩
                  case measure => first | (simp [intOf]; done) | (simp [intOf]; omega)
              · obtain rfl : V = B := by
                  have := hV.out; have e : i - 1 = q + 1 := by omega
                  rw [e, HBq.out] at this; omega
                obtain rfl : i = q + 2 := by omega
                have LE := Lib.hid (show lw 3 (byteAt s) (q + 1) = max L (V * T) by
                  have e : lw 3 (byteAt s) (q + 1) = max (lw 3 (byteAt s) q) (bs 3 (byteAt s) (q + 1) * st 3 (q + 1)) := rfl
                  rw [e, eL.out, HT.out, HBq.out])
                have UE := Lib.hid (show hg 3 (byteAt s) (q + 1) = min U (V * T + T - 1) by
                  have e : hg 3 (byteAt s) (q + 1) = min (hg 3 (byteAt s) q) (bs 3 (byteAt s) (q + 1) * st 3 (q + 1) + st 3 (q + 1) - 1) := rfl
                  rw [e, eU.out, HT.out, HBq.out])
                go_wp2_with fail
                go_roundw
                case rel => exact ⟨q + 1, lw 3 (byteAt s) (q + 1), hg 3 (byteAt s) (q + 1), by omega, by go_num, congrArg (Value.int .i64) (by rw [LE.out]; split <;> omega), congrArg (Value.int .i64) (by rw [UE.out]; split <;> omega), by omega, by rw [LE.out]; omega, by rw [UE.out]; omega, Lib.hid rfl, Lib.hid rfl, Lib.hid (cont_next hcont.out (by rw [hdH.out]; exact hcnH.out)), Lib.hid (hB.out.trans (hB2.out.mono hB.out.size))⟩
                case measure => first | (simp [intOf]; done) | (simp [intOf]; omega)
          · have F := Lib.hid (fin_cut 3 s.size (q + 1) (byteAt s) hl.out t4.out (by omega) (.inr (by omega)))
            have g4 : (3 : Int) ≤ (q : Int) + 1 := by omega
            go_wp2_with fail
            refine (EW.out _).mono ?_; rintro e w' ⟨rfl, rfl⟩
            go_wp2_with fail
            go_ret2
            exact ⟨by rw [← hrH.out, ← hxH.out, F.out.1, F.out.2]; rfl, hB.out⟩
        · have ew : decide ((128 : Int) ≤ (d : Int) ∧ (d : Int) ≤ 191) = false := decide_eq_false (by omega)
          rw [ew] at EW
          have F := Lib.hid (fin_cut 3 s.size (q + 1) (byteAt s) hl.out t4.out (by omega) (.inl (by rw [hdH.out]; exact hcn)))
          clear ew hcn
          go_wp2_with fail
          refine (EW.out _).mono ?_; rintro e w' ⟨rfl, rfl⟩
          go_wp2_with fail
          go_ret2
          exact ⟨by rw [← hrH.out, ← hxH.out, F.out.1, F.out.2]; rfl, hB.out⟩
      · have hqs : q + 1 = s.size := by omega
        have hqs1 : q = s.size - 1 := by omega
        have hs4 : s.size ≤ 3 := by omega
        have UT := hg_top 3 (byteAt s) hl.out q hqn hcont.out
        rw [eU.out] at UT
        have FY := Lib.hid (fun y => fin_yes 3 s.size y (byteAt s) hl.out (by omega) hs4 (by rw [← hqs1]; exact hcont.out))
        have FN := Lib.hid (fun y => fin_no 3 s.size y (byteAt s) hl.out (by omega) hs4 (by rw [← hqs1]; exact hcont.out))
        rw [← hqs1, eL.out, eU.out] at FY
        rw [← hqs1, eL.out, eU.out] at FN
        clear hs4
        have HQ := Lib.hid hqs
        have UTH := Lib.hid UT
        have ex : ¬ (q : Int) + 1 < (s.size : Int) := by omega
        clear hqs hqs1 UT
        go_wp2_with fail
        go_loopw [5] (fun low wr3 => ∃ y : Nat, y ≤ 4194304 ∧ low = .int .i64 (y : Int) ∧ Hid (L ≤ y) ∧ Hid (y = L ∨ (55296 ≤ L ∧ y ≤ 57344)) ∧ Hid (Below W.heap.size W wr3)) (fun low _ => 57345 - (intOf low).toNat)
        case atStart => exact ⟨L, by omega, rfl, Lib.hid (Nat.le_refl _), Lib.hid (.inl rfl), hB⟩
        case round =>
          obtain ⟨y, hy, rfl, hLy, hyL, hB3⟩ := hrel
          by_cases hyU : y ≤ U
          · have SG := Lib.hid (fun W => isSign_any (y : Int) W)
            by_cases hs : 55296 ≤ y ∧ y ≤ 57343
            · have e : sgB (y : Int) = false := decide_eq_false (by omega)
              rw [e] at SG
              have HS := Lib.hid hs
              clear e hs
              go_wp2_with (go_at_call 40; refine (SG.out _).mono ?_; rintro e w' ⟨rfl, rfl⟩)
              go_roundw
              case rel => exact ⟨y + 1, by have := HS.out; omega, by go_num, Lib.hid (by have := hLy.out; omega), Lib.hid (by have := HS.out; have := hyL.out; omega), hB3⟩
              case measure => have := HS.out; first | (simp [intOf]; done) | (simp [intOf]; omega)
            · have e : sgB (y : Int) = true := decide_eq_true (by have := UTH.out; omega)
              rw [e] at SG
              have F := Lib.hid (FY.out y hLy.out hyU (by omega))
              clear e hs
              by_cases hz : s.size = 3
              · have hz1 : ((s.size : Int) == 3) = true := by rw [hz]; rfl
                have hzH := Lib.hid hz
                clear hz
                go_wp2_with (go_at_call 40; refine (SG.out _).mono ?_; rintro e w' ⟨rfl, rfl⟩)
                go_ret2
                exact ⟨by rw [← hrH.out, ← hxH.out, F.out.1, F.out.2, if_pos hzH.out]; rfl, hB3.out⟩
              · have hz1 : ((s.size : Int) == 3) = false := by rw [beq_eq_false_iff_ne]; omega
                have hzH := Lib.hid hz
                clear hz
                go_wp2_with (go_at_call 40; refine (SG.out _).mono ?_; rintro e w' ⟨rfl, rfl⟩)
                go_ret2
                exact ⟨by rw [← hrH.out, ← hxH.out, F.out.1, F.out.2, if_neg hzH.out]; rfl, hB3.out⟩
          · have F := Lib.hid (FN.out y (by omega) (by have := hyL.out; have := hLy.out; omega))
            have hyU' : decide ((y : Int) ≤ (U : Int)) = false := decide_eq_false (by omega)
            have hyU2 : (U : Int) < (y : Int) := by omega
            clear hyU
            go_wp2_with fail
            go_ret2
            exact ⟨by rw [← hrH.out, ← hxH.out, F.out.1, F.out.2]; rfl, hB3.out⟩
end Go.Proofs.YthkigjhbcempbaaDoor.Td
