/-
  PROVED HERE: the contract of the document's SumOf at sums that can be made. Conditions: as each theorem states.
-/
import Derived.Test.YtifnochpmlllgaaDoorSumQ
import Derived.Deep.AppendLies
namespace Go.Proofs.YtifnochpmlllgaaDoor.Sum
open Go.RowKit
set_option maxRecDepth 100000 in
set_option maxHeartbeats 3000000 in
theorem docOf_yes (w P : Nat) (t : Bool) (I O : Nat) (s : ByteArray) (hw : w = 8 ∨ w = 16 ∨ w = 32) (hs : s.size ≤ 200) (hodd : P % 2 = 1) (hP : P < 2 ^ w) (hI : I < 2 ^ w) (hO : O < 2 ^ w) (W : World) :
    Calls Tryd.prog 42 #[Sm w P t I O, .string s] W (DSP (ou w t (cr w P t I s s.size) O) 0 W) := by
  have h32 : (2 : Nat) ^ w ≤ 4294967296 := by rcases hw with rfl | rfl | rfl <;> decide
  have R := Lib.hid (docRight_any w P t I O (by omega) (by omega) (by omega) (by omega))
  rw [decide_eq_true (show good w P I O from ⟨by omega, hodd, by simpa using hP, by simpa using hI, by simpa using hO⟩)] at R
  unfold Sm at R ⊢
  have h32H := Lib.hid h32
  have hwH := Lib.hid hw
  clear hw h32
  go_enter Tryd.func42, Tryd.ntmps42
  go_wp2_with fail
  refine (R.out _).mono ?_; rintro e w1 ⟨rfl, h1⟩
  have H1 := Lib.hid (((Below.refl W.heap.size W).alloc (Nat.le_refl _) _).trans (h1.mono (by simp)))
  have C1 : Hid (Cs w1 W.heap.size w P t I O) := Lib.hid (Cs.below ⟨by simp, by simp, by simp, by simp, by simp⟩ h1)
  clear h1
  go_wp2_with fail
  go_loopw [6, 7] (fun v i wr => ∃ k : Nat, k ≤ s.size ∧ i = .int .i64 k ∧ Lst wr w1.heap.size v (raw s t) (8 * k) ∧ Hid (Below w1.heap.size w1 wr)) (fun _ i _ => s.size - (intOf i).toNat)
  case atStart => exact ⟨0, Nat.zero_le _, rfl, ⟨⟨none, 0, rfl⟩, Lib.hid (own_nil _ _ _)⟩, Lib.hid (Below.refl _ _)⟩
  case round =>
    obtain ⟨k, hk, rfl, ⟨⟨a0, c0, rfl⟩, hO1⟩, hBH⟩ := hrel
    by_cases hlt : k < s.size
    · have hb := Lib.hid (byteAt_eq s k hlt)
      have i1 : (0 : Int) ≤ (k : Int) := by omega
      have i2 : (k : Int) < (s.size : Int) := by omega
      go_wp2_with fail
      go_loopw [6, 8] (fun v i wq => ∃ m : Nat, m ≤ 8 ∧ i = .int .i64 m ∧ Lst wq w1.heap.size v (raw s t) (8 * k + m) ∧ Hid (Below w1.heap.size w1 wq)) (fun _ i _ => 8 - (intOf i).toNat)
      case atStart => exact ⟨0, Nat.zero_le _, rfl, ⟨⟨_, _, rfl⟩, hO1⟩, hBH⟩
      case round =>
        obtain ⟨m, hm, rfl, ⟨⟨a1, c1, rfl⟩, hO2⟩, hB2⟩ := hrel
        clear hO1 hBH
        by_cases hl2 : m < 8
        · have hC2 := Lib.hid (C1.out.below hB2.out)
          have hct := hC2.out.2.2.1
          have RB := Lib.hid (raw_bit s t k m hl2)
          obtain ⟨q, hq⟩ : ∃ q : Nat, (7 : Int) - m = q := ⟨7 - m, by omega⟩
          have hc8 : s[k].toNat < 256 := UInt8.toNat_lt _
          have hsn := Lib.hid (bl_snoc (raw s t) (8 * k + m))
          have N : Hid (∃ n : Nat, n ≤ 7 ∧ (if t then m else q) = n ∧ raw s t (8 * k + m) = s[k].toNat.testBit n) := Lib.hid ⟨if t then m else q, by split <;> omega, rfl, by rw [RB.out, ← byteAt_eq s k hlt]; cases t <;> simp; congr 1; omega⟩
          clear RB
          obtain ⟨n, hn7, hn, hraw⟩ := N.out
          have CP := Lib.hid (pow2w n (by omega))
          have hp0 := p2_ne n
          obtain ⟨d, r, z1, z2, z3, z4, z5, z6⟩ := bit_names s[k].toNat n (by omega)
          rw [← hraw] at z6
          have hrawH := Lib.hid hraw
          clear hraw N
          generalize Pow.p2 n = p at *
          cases t
          all_goals
            have hn' := Lib.hid hn
            simp at hn
            subst hn
            go_wp2_with fail
            go_region_law (first | (go_simp; go_at_call 73; refine (CP.out _).mono ?_; rintro e w' ⟨rfl, rfl⟩) | (refine own_append_step (by rfl) _ _ 135 (by rfl) w1.heap.size 4 (.bool false) 1 Tryd.underlying135 (by kernel_rfl) rfl _ _ (by rfl) ((hO2.out.drew).alloc _) _ 1 _ _ (by rfl) rfl (World.news_of_block (heap_alloc_new _ _)) (by simp [Value.oneCell']) (by rw [bl_len]; omega) (by rw [bl_len]; omega) (le_alloc (w := wr.drew) hB2.out.size _) ?_; intro v1 w2 ho1 hg1 hb1 hat1))
            all_goals
              have hBn := Lib.hid (below_append hB2.out.drew _ hB2.out.size hb1)
              have hLn : Lst w2 w1.heap.size v1 _ (8 * k + m + 1) := ⟨by obtain ⟨a', c', e'⟩ := ho1.len; rw [hsn.out, bl_len] at e'; exact ⟨a', c', e'⟩, Lib.hid (by rw [hsn.out] at ho1; exact ho1)⟩
              clear z1 z2 z3 z4 z5 z6 hg1 hb1 hat1 ho1
              go_wp2_with fail
              go_roundw
              case rel => exact ⟨m + 1, by omega, by go_num, hLn, hBn⟩
              case measure => simp [intOf]; omega
        · obtain rfl : m = 8 := by omega
          go_wp2_with fail
          go_roundw
          case rel => exact ⟨k + 1, by omega, by go_num, ⟨⟨_, _, rfl⟩, hO2⟩, hB2⟩
          case measure => simp [intOf]; omega
    · obtain rfl : k = s.size := by omega
      have hC2 := Lib.hid (C1.out.below hBH.out)
      have hcw := hC2.out.1
      have hw1 : 0 < w := by rcases hwH.out with rfl | rfl | rfl <;> decide
      have hw2 : w ≤ 32 := by rcases hwH.out with rfl | rfl | rfl <;> decide
      have hzs := Lib.hid (bl_zeros (raw s t) (8 * s.size) w)
      clear hC2
      go_wp2_with (at_builtin; refine own_append_zeros rfl _ _ 135 3 rfl w1.heap.size 4 (.bool false) 1 .i64 .i64 Tryd.underlying135 Tryd.underlying3 (by kernel_rfl) rfl rfl _ _ rfl hO1.out w rfl hw1 (by rw [bl_len]; omega) (by rw [bl_len]; omega) hBH.out.size ?_; intro v1 w2 ho1 hg1 hb1 hat1)
      rw [hzs.out, lf_zero s t I w] at ho1
      obtain ⟨N, hN⟩ : ∃ N : Nat, N = 8 * s.size + w := ⟨_, rfl⟩
      rw [← hN] at ho1
      have hNH := Lib.hid hN
      have hNw : w ≤ N := by omega
      have hNs : N ≤ 1632 := by omega
      obtain ⟨g, c, hv, hBg, hfr⟩ : ∃ g c, v1 = .slice (some ⟨g, 0, none⟩) N c ∧ w1.heap.size ≤ g ∧ ∀ wz xs, Own wz w1.heap.size 4 (.slice (some ⟨g, 0, none⟩) N c) xs → ∀ j, wz.frozen? ⟨g, j, none⟩ = false := by
        rcases ho1.form with ⟨_, h0⟩ | ⟨g, cap, e, h1, _⟩
        · exfalso
          have := congrArg List.length h0
          rw [bl_len] at this
          simp at this
          omega
        · rw [bl_len] at e
          refine ⟨g, cap, e, h1, fun wz xs ho j => ?_⟩
          rcases ho.form with ⟨e2, _⟩ | ⟨g2, cap2, e2, _, _, _, hz⟩
          · simp at e2
          · simp only [Value.slice.injEq, Option.some.injEq, Addr.mk.injEq] at e2
            rw [e2.1.1]; exact hz j
      subst hv
      have hfrH := Lib.hid hfr
      have hB3 := Lib.hid (hBH.out.trans hb1)
      have hO3 := Lib.hid ho1
      have hcap := own_cap ho1
      clear hN hfr hg1 hb1 hat1 ho1 hzs hO1 hBH hcw
      go_wp2_with fail
      go_loopw [10] (fun i wq => ∃ k : Nat, k ≤ w ∧ i = .int .i64 k ∧ Hid (Own wq w1.heap.size 4 (.slice (some ⟨g, 0, none⟩) N c) (bl (lf s t I w k) N)) ∧ Hid (Below w1.heap.size w1 wq)) (fun i _ => w - (intOf i).toNat)
      case atStart => exact ⟨0, Nat.zero_le _, rfl, hO3, hB3⟩
      case round =>
        obtain ⟨k, hk, rfl, hO4, hB4⟩ := hrel
        have hC4 := C1.out.below hB4.out
        obtain ⟨d0, -, -, d3, -⟩ := hC4
        by_cases hlt : k < w
        · obtain ⟨q1, hq1⟩ : ∃ q1 : Nat, (w : Int) - 1 = q1 := ⟨w - 1, by omega⟩
          obtain ⟨q2, hq2⟩ : ∃ q2 : Nat, (q1 : Int) - k = q2 := ⟨w - 1 - k, by omega⟩
          have hq2' : q2 = w - 1 - k := by omega
          have hS := Lib.hid (lf_set s t I w N k)
          rw [← hq2'] at hS
          have CP := Lib.hid (pow2w q2 (by omega))
          have hp0 := p2_ne q2
          have hIl : I < 4294967296 := Nat.lt_of_lt_of_le hI h32H.out
          obtain ⟨d, r, z1, z2, z3, z4, z5, z6⟩ := bit_names I q2 hIl
          have y1 : IntKind.i64.wrap (q1 : Int) = q1 := IntWalk.i64_in _ (by omega)
          have y2 : IntKind.i64.wrap (q2 : Int) = q2 := IntWalk.i64_in _ (by omega)
          have i1 : (0 : Int) ≤ (k : Int) := by omega
          have i2 : (k : Int) < (N : Int) := by omega
          obtain ⟨g', hg', hcell⟩ := hO4.out.at_ k (by rw [bl_len]; omega)
          simp only [Option.some.injEq, Addr.mk.injEq] at hg'
          obtain ⟨rfl, _⟩ := hg'
          rw [bl_get] at hcell
          have hfz := hfrH.out _ _ hO4.out k
          clear hq2'
          generalize Pow.p2 q2 = p at *
          generalize I.testBit q2 = b at *
          generalize hx : lf s t I w k k = x at *
          have hxH := Lib.hid hx
          clear hx
          go_wp2_with fail
          refine wp_region_still_tail 20 (by kernel_rfl) (by kernel_rfl) ?_
          simp only [List.take_succ_cons, List.take_zero, List.drop_succ_cons, List.drop_zero]
          repeat still_step
          still_call (CP.out _)
          repeat still_step
          refine wpStill_nil ?_
          go_wp2_with fail
          have hO5 := Lib.hid ((hO4.out.set k (.bool (x != b))).drew)
          have hB5 := Lib.hid ((hB4.out.setCell (p := ⟨g, k, none⟩) hBg (.bool (x != b))).drew)
          rw [hS.out] at hO5
          go_roundw
          case rel => exact ⟨k + 1, by omega, by go_num, hO5, hB5⟩
          case measure => simp [intOf]; omega
        · obtain rfl : k = w := by omega
          have hO5 := Lib.hid hO4.out
          clear d3 hO3 hO4 hB3
          go_wp2_with fail
          clear d0
          obtain ⟨M, hM⟩ : ∃ M : Nat, M = 8 * s.size := ⟨_, rfl⟩
          have hMs : M ≤ 1600 := by omega
          have hMN : M + k ≤ N := by have := hNH.out; omega
          have hNM : N ≤ M + k := by have := hNH.out; omega
          have hMH := Lib.hid hM
          clear hM
          go_loopw [11] (fun i wq => ∃ q f, q ≤ M ∧ i = .int .i64 (q : Nat) ∧ Hid (Dk k P t I s f q) ∧ Hid (Own wq w1.heap.size 4 (.slice (some ⟨g, 0, none⟩) N c) (bl f N)) ∧ Hid (Below w1.heap.size w1 wq)) (fun i _ => M - (intOf i).toNat)
          case atStart => exact ⟨0, _, Nat.zero_le _, rfl, Lib.hid (Dk.zero k P t I s), hO5, hB4⟩
          case round =>
            obtain ⟨q, f, hq, rfl, hD, hO6, hB6⟩ := hrel
            clear hO5 hB4
            obtain ⟨d0, d1, -, -, -⟩ := C1.out.below hB6.out
            by_cases hlt2 : q < M
            · have hltH := Lib.hid (show q < 8 * s.size by rw [← hMH.out]; exact hlt2)
              have t1 : (q : Int) + (k : Int) < (N : Int) := by omega
              obtain ⟨g', hg', hcell⟩ := hO6.out.at_ q (by rw [bl_len]; omega)
              simp only [Option.some.injEq, Addr.mk.injEq] at hg'
              obtain ⟨rfl, _⟩ := hg'
              rw [bl_get] at hcell
              have i1 : (0 : Int) ≤ (q : Int) := by omega
              have i2 : (q : Int) < (N : Int) := by omega
              generalize hx : f q = x at *
              have hxH := Lib.hid hx
              clear hx
              cases x
              · have hn := Lib.hid (hD.out.skip hltH.out hw1 hxH.out)
                go_wp2_with fail
                go_roundw
                case rel => exact ⟨q + 1, f, by omega, by go_num, hn, hO6, hB6⟩
                case measure => simp [intOf]; omega
              · have h1 : Hid (dv k P t I s q q = true) := Lib.hid (by rw [← hD.out q (Nat.le_refl _)]; exact hxH.out)
                have hDq := Lib.hid hD.out.q
                go_wp2_with fail
                clear hcell
                go_loopw [12] (fun i wz => ∃ m f, m ≤ k ∧ i = .int .i64 (m : Nat) ∧ Hid (Dq k P t I s f q m) ∧ Hid (Own wz w1.heap.size 4 (.slice (some ⟨g, 0, none⟩) N c) (bl f N)) ∧ Hid (Below w1.heap.size w1 wz)) (fun i _ => k - (intOf i).toNat)
                case atStart => exact ⟨0, f, Nat.zero_le _, rfl, hDq, hO6, hB6⟩
                case round =>
                  obtain ⟨m, f2, hm, rfl, hD2, hO7, hB7⟩ := hrel
                  clear hDq hO6 hB6 d0 d1
                  obtain ⟨d0, d1, -, -, -⟩ := C1.out.below hB7.out
                  by_cases hlt3 : m < k
                  · obtain ⟨q1, hq1⟩ : ∃ q1 : Nat, (k : Int) - 1 = q1 := ⟨k - 1, by omega⟩
                    obtain ⟨q2, hq2⟩ : ∃ q2 : Nat, (q1 : Int) - m = q2 := ⟨k - 1 - m, by omega⟩
                    obtain ⟨j1, hj1⟩ : ∃ j1 : Nat, (q : Int) + 1 = j1 := ⟨q + 1, by omega⟩
                    obtain ⟨j, hj⟩ : ∃ j : Nat, (j1 : Int) + m = j := ⟨q + 1 + m, by omega⟩
                    have hq2' : k - 1 - m = q2 := by omega
                    have hj' : q + 1 + m = j := by omega
                    have hn := Lib.hid (hD2.out.next hltH.out hw1 hlt3 h1.out)
                    rw [hq2', hj'] at hn
                    have CP := Lib.hid (pow2w q2 (by omega))
                    have hp0 := p2_ne q2
                    obtain ⟨d, r, z1, z2, z3, z4, z5, z6⟩ := bit_names P q2 (Nat.lt_of_lt_of_le hP h32H.out)
                    have y1 : IntKind.i64.wrap (q1 : Int) = q1 := IntWalk.i64_in _ (by omega)
                    have y2 : IntKind.i64.wrap (q2 : Int) = q2 := IntWalk.i64_in _ (by omega)
                    have y3 : IntKind.i64.wrap (j1 : Int) = j1 := IntWalk.i64_in _ (by omega)
                    have y4 : IntKind.i64.wrap (j : Int) = j := IntWalk.i64_in _ (by omega)
                    have hjN : j < N := by omega
                    have i1' : (0 : Int) ≤ (j : Int) := by omega
                    have i2' : (j : Int) < (N : Int) := by omega
                    obtain ⟨g', hg', hcell⟩ := hO7.out.at_ j (by rw [bl_len]; omega)
                    simp only [Option.some.injEq, Addr.mk.injEq] at hg'
                    obtain ⟨rfl, _⟩ := hg'
                    rw [bl_get] at hcell
                    have hfz := hfrH.out _ _ hO7.out j
                    have hS := Lib.hid (bl_set f2 N j (f2 j != P.testBit q2))
                    clear hq2' hj' hjN
                    generalize Pow.p2 q2 = p at *
                    generalize P.testBit q2 = b at *
                    generalize hx : f2 j = x at *
                    have hxH := Lib.hid hx
                    clear hx
                    go_wp2_with fail
                    refine wp_region_still_tail 26 (by kernel_rfl) (by kernel_rfl) ?_
                    simp only [List.take_succ_cons, List.take_zero, List.drop_succ_cons, List.drop_zero]
                    repeat still_step
                    still_call (CP.out _)
                    repeat still_step
                    refine wpStill_nil ?_
                    go_wp2_with fail
                    have hO8 := Lib.hid ((hO7.out.set j (.bool (x != b))).drew)
                    have hB8 := Lib.hid ((hB7.out.setCell (p := ⟨g, j, none⟩) hBg (.bool (x != b))).drew)
                    rw [hS.out] at hO8
                    go_roundw
                    case rel => exact ⟨m + 1, _, by omega, by go_num, hn, hO8, hB8⟩
                    case measure => simp [intOf]; omega
                  · obtain rfl : m = k := by omega
                    have hn := Lib.hid hD2.out.last
                    go_wp2_with fail
                    go_roundw
                    case rel => exact ⟨q + 1, f2, by omega, by go_num, hn, hO7, hB7⟩
                    case measure => simp [intOf]; omega
            · obtain rfl : q = M := by omega
              have t1 : ¬ ((q : Int) + (k : Int) < (N : Int)) := by omega
              have t2 : (N : Int) - (k : Int) = (q : Int) := by omega
              have i1 : (0 : Int) ≤ (q : Int) := by omega
              have i2 : (q : Int) ≤ (N : Int) := by omega
              have i3 : (N : Int) ≤ (c : Int) := by omega
              have t3 : N - q = k := by omega
              obtain ⟨d0, -, d2, -, d4⟩ := C1.out.below hB6.out
              have hR : cb k P t I s q < 2 ^ k := by rw [hMH.out, cb_cr k P t I s (by rcases hwH.out with h | h | h <;> omega)]; exact cr_lt k P t I s hwH.out hP hI s.size
              have hRl : cb k P t I s q < 4294967296 := Nat.lt_of_lt_of_le hR h32H.out
              have hBt : Hid (∀ m, m < k → f (q + m) = (cb k P t I s q).testBit (k - 1 - m)) := Lib.hid (fun m hm => by rw [hD.out (q + m) (by omega), hMH.out]; exact dv_last k P t I s m hm)
              have hou : Hid ((if t then rv (cb k P t I s q) k else cb k P t I s q) ^^^ O = ou k t (cr k P t I s s.size) O) := Lib.hid (by rw [hMH.out, cb_cr k P t I s (by rcases hwH.out with h | h | h <;> omega)]; rfl)
              have hEnd := Lib.hid (H1.out.trans (hB6.out.mono H1.out.size))
              have hk32 : k ≤ 32 := hw2
              clear hD hlt2
              generalize cb k P t I s q = Rg at *
              go_wp2_with fail
              go_loop [13, 130] (fun r i => ∃ m : Nat, m ≤ k ∧ i = .int .i64 m ∧ r = .int .u64 (Rg / 2 ^ (k - m) : Nat)) (fun _ i => k - (intOf i).toNat)
              case atStart => exact ⟨0, Nat.zero_le _, rfl, by rw [Nat.sub_zero, Nat.div_eq_of_lt hR]; rfl⟩
              case round =>
                obtain ⟨m, hm, rfl, rfl⟩ := hrel
                by_cases hlt4 : m < k
                · obtain ⟨g', hg', hcell⟩ := hO6.out.at_ (q + m) (by rw [bl_len]; omega)
                  simp only [Option.some.injEq, Addr.mk.injEq] at hg'
                  obtain ⟨rfl, _⟩ := hg'
                  rw [bl_get, hBt.out m hlt4] at hcell
                  have hnx := Lib.hid (num_next Rg k m hlt4)
                  have hle : Rg / 2 ^ (k - m) ≤ Rg := Nat.div_le_self _ _
                  have hb1 : (Rg.testBit (k - 1 - m)).toNat ≤ 1 := Bool.toNat_le _
                  have OB := Lib.hid (one_b (Rg.testBit (k - 1 - m)))
                  generalize Rg.testBit (k - 1 - m) = x at *
                  generalize Rg / 2 ^ (k - m) = y at *
                  have j1 : (0 : Int) ≤ (m : Int) := by omega
                  have j2 : (m : Int) < (k : Int) := by omega
                  generalize hxn : x.toNat = n at *
                  clear hxn
                  clear d0 d2 d4
                  go_wp2_with fail
                  refine (OB.out _).mono ?_; rintro e w' ⟨rfl, rfl⟩
                  go_wp2_with fail
                  go_round
                  case rel => exact ⟨m + 1, by omega, by go_num, by rw [← hnx.out]; first | rfl | go_num⟩
                  case measure => simp [intOf]; omega
                · obtain rfl : m = k := by omega
                  rw [Nat.sub_self, Nat.pow_zero, Nat.div_one]
                  have hrv := rv_lt32 Rg m hk32
                  have FL := Lib.hid (flips_any Rg m hk32 (by omega))
                  have hOl : O < 4294967296 := Nat.lt_of_lt_of_le hO h32H.out
                  have X1 := Lib.hid (u32_xor_nat Rg O hRl hOl)
                  have X2 := Lib.hid (u32_xor_nat (rv Rg m) O hrv hOl)
                  cases t
                  · go_wp2_with fail
                    rw [X1.out]
                    go_ret2
                    exact ⟨by rw [← hou.out]; rfl, hEnd.out⟩
                  · go_wp2_with fail
                    refine (FL.out _).mono ?_; rintro e w' ⟨rfl, rfl⟩
                    go_wp2_with fail
                    rw [X2.out]
                    go_ret2
                    exact ⟨by rw [← hou.out]; rfl, hEnd.out⟩
end Go.Proofs.YtifnochpmlllgaaDoor.Sum
