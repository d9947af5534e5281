/-
  PROVED HERE: the contract of the document's RealNarrow, and that the law RealNarrows returns true. Conditions: as each theorem states.
-/
import Derived.Test.YtdlphcfmbhhfgaaRnR
import Derived.Test.YtdlphcfmbhhfgaaFrame
import Derived.Deep.RegionWith
import Derived.Deep.QuietTactic
import Derived.Deep.DeepCutAuto
import Derived.Deep.CutBlock
namespace Go.Proofs.Ytdlphcfmbhhfgaa.Rn
open Go.RowKit Real
attribute [local go_sem ↓] Go.wp_at_zero Go.wp_at_succ
set_option maxRecDepth 20000 in
set_option maxHeartbeats 4000000 in
theorem docNarrow_over (b s k : Nat) (hb : b < 18446744073709551616) (hs : s = b / 9223372036854775808 * 2147483648) (hk : k = b % 9223372036854775808) (hnan : cls 2047 (exp64 (b : Int)) (frac64 (b : Int)) ≠ 4) (hov : 1151 * 2 ^ 52 ≤ k) (W : World) :
    Calls Try.prog 5 #[.int .u64 (b : Int)] W (NaP ((s + 2139095040 : Nat) : Int) W) := by
  have C1 := Lib.hid (fun W => docApart_64 (b : Int) (by omega) (by omega) W)
  have C2 := Lib.hid (fun W => docClass_64 (b : Int) (by omega) (by omega) W)
  have hc : (cls 2047 (exp64 (b : Int)) (frac64 (b : Int)) == 4) = false := by rw [beq_eq_false_iff_ne]; exact hnan
  clear hnan
  have CP := Lib.hid (fun W => pow2_is 63 (by decide) (by decide) 9223372036854775808 (by decide) W)
  have hkI : (b : Int) % 9223372036854775808 = ((k : Nat) : Int) := by omega
  obtain ⟨kI, hkk⟩ : ∃ kI : Int, ((k : Nat) : Int) = kI := ⟨_, rfl⟩
  have k0 : 0 ≤ kI := by omega
  have k1 : (5183643171103440896 : Int) ≤ kI := by omega
  have k2 : kI < 9223372036854775808 := by omega
  rw [hkk] at hkI
  obtain ⟨sI, hsI⟩ : ∃ sI : Int, ((s : Nat) : Int) = sI := ⟨_, rfl⟩
  have HK := Lib.hid hkk
  have HS := Lib.hid hsI
  have hN : neg64 (b : Int) = decide (s = 2147483648) := by
    unfold neg64
    rw [Bool.eq_iff_iff, beq_iff_eq, decide_eq_true_iff]
    omega
  have hs2 : s = 0 ∨ s = 2147483648 := by omega
  rw [hN] at C1
  generalize exp64 (b : Int) = E at *
  generalize frac64 (b : Int) = F at *
  generalize cls 2047 E F = cl at *
  clear hov hk hkk hN hs
  have one_s : ∀ W, Calls Try.prog 9 #[.bool (decide (s = 2147483648))] W fun e w' => e = .returned (.int .i64 (if s = 2147483648 then 1 else 0)) ∧ w' = W := fun W => by
    by_cases c : s = 2147483648
    · rw [decide_eq_true c, if_pos c]; exact one_t W
    · rw [decide_eq_false c, if_neg c]; exact one_f W
  have C3 := Lib.hid one_s
  obtain ⟨o, ho⟩ : ∃ o : Int, (if s = 2147483648 then (1 : Int) else 0) = o := ⟨_, rfl⟩
  rw [ho] at C3
  have ho2 : o * 2147483648 = sI := by
    rw [← ho, ← hsI]
    rcases hs2 with rfl | rfl
    · decide
    · decide
  have o1 : 0 ≤ o ∧ o ≤ 1 := by rw [← ho]; split <;> decide
  obtain ⟨o1, o2⟩ := o1
  generalize decide (s = 2147483648) = N at *
  clear ho hsI one_s
  have hE : ((s + 2139095040 : Nat) : Int) = sI + 2139095040 := by have := HS.out; omega
  have wE : IntKind.u32.wrap (sI + 2139095040) = sI + 2139095040 := by
    have e : ∀ x : Int, IntKind.u32.wrap x = x % 4294967296 := fun x => by simp [IntKind.wrap, IntKind.bits, IntKind.signed]
    rw [e]; have := HS.out; omega
  rw [hE]
  clear hE
  go_enter Try.func5, Try.ntmps5
  go_wp2_with fail
  refine (C1.out _).mono ?_; rintro x w1 ⟨rfl, h1⟩
  have H1 := Lib.hid h1
  clear h1
  go_wp2_with fail
  refine (C2.out _).mono ?_; rintro x w2 ⟨rfl, h2⟩
  have a0 : w2.cell? ⟨w1.heap.size, 0, none⟩ = some (.bool N) := (h2.cell (p := ⟨w1.heap.size, 0, none⟩) (by simp)).trans (by simp)
  have H2 := Lib.hid ((H1.out.alloc H1.out.size _).trans (h2.mono (le_alloc H1.out.size _)))
  clear h2
  go_wp2_with fail
  refine (C3.out _).mono ?_; rintro x w' ⟨rfl, rfl⟩
  go_wp2_with fail
  refine (CP.out _).mono ?_; rintro x w4 ⟨rfl, rfl⟩
  go_wp2_with fail
  go_ret
  exact ⟨rfl, H2.out⟩
set_option maxRecDepth 20000 in
set_option maxHeartbeats 4000000 in
theorem docNarrow_nan (b s k : Nat) (hb : b < 18446744073709551616) (hs : s = b / 9223372036854775808 * 2147483648) (hk : k = b % 9223372036854775808) (hnan : cls 2047 (exp64 (b : Int)) (frac64 (b : Int)) = 4) (W : World) :
    Calls Try.prog 5 #[.int .u64 (b : Int)] W (NaP (bits .or .u32 ((s + 2143289344 : Nat) : Int) (frac64 (b : Int) / 536870912)) W) := by
  have C1 := Lib.hid (fun W => docApart_64 (b : Int) (by omega) (by omega) W)
  have C2 := Lib.hid (fun W => docClass_64 (b : Int) (by omega) (by omega) W)
  have hc : (cls 2047 (exp64 (b : Int)) (frac64 (b : Int)) == 4) = true := by rw [hnan]; rfl
  have C29 := Lib.hid (fun W => pow2_is 29 (by decide) (by decide) 536870912 (by decide) W)
  obtain ⟨hf0, hf1⟩ := frac64_bd (b : Int)
  have hfd : IntKind.u32.wrap (frac64 (b : Int) / 536870912) = frac64 (b : Int) / 536870912 := by
    have e : ∀ x : Int, IntKind.u32.wrap x = x % 4294967296 := fun x => by simp [IntKind.wrap, IntKind.bits, IntKind.signed]
    rw [e]; omega
  have hq : IntKind.u64.wrap (frac64 (b : Int) / 536870912) % 4294967296 = frac64 (b : Int) / 536870912 := by
    rw [IntKind.wrap_u64]; omega
  have HQ := Lib.hid hq
  clear hnan hf1 hq
  have CP := Lib.hid (fun W => pow2_is 63 (by decide) (by decide) 9223372036854775808 (by decide) W)
  have hkI : (b : Int) % 9223372036854775808 = ((k : Nat) : Int) := by omega
  obtain ⟨kI, hkk⟩ : ∃ kI : Int, ((k : Nat) : Int) = kI := ⟨_, rfl⟩
  have k0 : 0 ≤ kI := by omega
  have k2 : kI < 9223372036854775808 := by omega
  rw [hkk] at hkI
  obtain ⟨sI, hsI⟩ : ∃ sI : Int, ((s : Nat) : Int) = sI := ⟨_, rfl⟩
  have HK := Lib.hid hkk
  have HS := Lib.hid hsI
  have hN : neg64 (b : Int) = decide (s = 2147483648) := by
    unfold neg64
    rw [Bool.eq_iff_iff, beq_iff_eq, decide_eq_true_iff]
    omega
  have hs2 : s = 0 ∨ s = 2147483648 := by omega
  rw [hN] at C1
  generalize exp64 (b : Int) = E at *
  generalize frac64 (b : Int) = F at *
  generalize cls 2047 E F = cl at *
  clear hk hkk hN hs
  have one_s : ∀ W, Calls Try.prog 9 #[.bool (decide (s = 2147483648))] W fun e w' => e = .returned (.int .i64 (if s = 2147483648 then 1 else 0)) ∧ w' = W := fun W => by
    by_cases c : s = 2147483648
    · rw [decide_eq_true c, if_pos c]; exact one_t W
    · rw [decide_eq_false c, if_neg c]; exact one_f W
  have C3 := Lib.hid one_s
  obtain ⟨o, ho⟩ : ∃ o : Int, (if s = 2147483648 then (1 : Int) else 0) = o := ⟨_, rfl⟩
  rw [ho] at C3
  have ho2 : o * 2147483648 = sI := by
    rw [← ho, ← hsI]
    rcases hs2 with rfl | rfl
    · decide
    · decide
  have o1 : 0 ≤ o ∧ o ≤ 1 := by rw [← ho]; split <;> decide
  obtain ⟨o1, o2⟩ := o1
  generalize decide (s = 2147483648) = N at *
  clear ho hsI one_s
  have hE : ((s + 2143289344 : Nat) : Int) = sI + 2143289344 := by have := HS.out; omega
  have wE : IntKind.u32.wrap (sI + 2143289344) = sI + 2143289344 := by
    have e : ∀ x : Int, IntKind.u32.wrap x = x % 4294967296 := fun x => by simp [IntKind.wrap, IntKind.bits, IntKind.signed]
    rw [e]; have := HS.out; omega
  rw [hE]
  clear hE
  go_enter Try.func5, Try.ntmps5
  go_wp2_with fail
  refine (C1.out _).mono ?_; rintro x w1 ⟨rfl, h1⟩
  have H1 := Lib.hid h1
  clear h1
  go_wp2_with fail
  refine (C2.out _).mono ?_; rintro x w2 ⟨rfl, h2⟩
  have a0 : w2.cell? ⟨w1.heap.size, 0, none⟩ = some (.bool N) := (h2.cell (p := ⟨w1.heap.size, 0, none⟩) (by simp)).trans (by simp)
  have a2 : w2.cell? ⟨w1.heap.size, 2, none⟩ = some (.int .u64 F) := (h2.cell (p := ⟨w1.heap.size, 2, none⟩) (by simp)).trans (by simp)
  have H2 := Lib.hid ((H1.out.alloc H1.out.size _).trans (h2.mono (le_alloc H1.out.size _)))
  clear h2
  go_wp2_with fail
  refine (C3.out _).mono ?_; rintro x w' ⟨rfl, rfl⟩
  go_wp2_with fail
  have tF : F.tdiv 536870912 = F / 536870912 := Int.tdiv_eq_ediv_of_nonneg hf0
  go_quiet ((go_at_call 10; exact Calls.quiet_of_same (C29.out _)))
  rw [HQ.out]
  go_wp2_with fail
  go_ret
  exact ⟨rfl, ⟨H2.out.os, H2.out.tape, H2.out.output, H2.out.size, H2.out.block⟩⟩
theorem narrow_walk (a0 : Int) (h0 : 0 ≤ a0) (h1 : a0 ≤ 18446744073709551615) (W : World) :
    Calls Try.prog 3 #[.int .u64 a0] W fun e w' => e = .returned (.bool true) ∧ Below W.heap.size W w' := by
  obtain ⟨b, rfl⟩ : ∃ b : Nat, a0 = (b : Int) := ⟨a0.toNat, by omega⟩
  have hb : b < 18446744073709551616 := by omega
  obtain ⟨s, hs⟩ : ∃ s, s = b / 9223372036854775808 * 2147483648 := ⟨_, rfl⟩
  obtain ⟨k, hk⟩ : ∃ k, k = b % 9223372036854775808 := ⟨_, rfl⟩
  have hsI : (b : Int) / 9223372036854775808 * 2147483648 = ((s : Nat) : Int) := by omega
  have hs2 : s = 0 ∨ s = 2147483648 := by omega
  have he : exp64 (b : Int) = ((k / 2 ^ 52 : Nat) : Int) := by unfold exp64; omega
  have hf : frac64 (b : Int) = ((k % 2 ^ 52 : Nat) : Int) := by unfold frac64; omega
  have key : ∃ v : Int, (∀ W, Calls Try.prog 4 #[.int .u64 (b : Int)] W (NaP v W)) ∧ (∀ W, Calls Try.prog 5 #[.int .u64 (b : Int)] W (NaP v W)) := by
    by_cases hn : cls 2047 (exp64 (b : Int)) (frac64 (b : Int)) = 4
    · have hE : exp64 (b : Int) = 2047 ∧ 0 < frac64 (b : Int) := by
        unfold cls at hn
        by_cases c : exp64 (b : Int) = 2047
        · rw [if_pos c] at hn
          by_cases d : 0 < frac64 (b : Int)
          · exact ⟨c, d⟩
          · rw [if_neg d] at hn; exact absurd hn (by decide)
        · rw [if_neg c] at hn
          split at hn
          · exact absurd hn (by decide)
          · split at hn <;> exact absurd hn (by decide)
      refine ⟨_, fun W => ?_, fun W => docNarrow_nan b s k hb hs hk hn W⟩
      have h := narrow_nan b (k % 2 ^ 52) (neg64 (b : Int)) (s : Int) hb rfl hsI hE.1 hf (by have := hE.2; omega) (by omega) W
      have e1 : bits .or .u32 ((s : Nat) : Int) 2143289344 = ((s + 2143289344 : Nat) : Int) := or_sign s 2143289344 hs2 (by decide)
      rw [e1, ← hf] at h
      exact h
    · by_cases h2 : exp64 (b : Int) = 2047
      · have hf0 : frac64 (b : Int) = 0 := by
          unfold cls at hn
          rw [if_pos h2] at hn
          have := (frac64_bd (b : Int)).1
          by_cases d : 0 < frac64 (b : Int)
          · rw [if_pos d] at hn; exact absurd rfl hn
          · omega
        refine ⟨_, fun W => ?_, fun W => docNarrow_over b s k hb hs hk hn (by omega) W⟩
        have h := narrow_inf b (neg64 (b : Int)) (s : Int) hb rfl hsI h2 hf0 W
        have e1 : bits .or .u32 ((s : Nat) : Int) 2139095040 = ((s + 2139095040 : Nat) : Int) := or_sign s 2139095040 hs2 (by decide)
        rw [e1] at h
        exact h
      · have hfin : k / 2 ^ 52 ≠ 2047 := by omega
        by_cases h3 : k < 1151 * 2 ^ 52
        · exact ⟨_, fun W => narrow_fin b s k hb hs hk hfin W, fun W => docNarrow_fin b s k hb hs hk h3 W⟩
        · refine ⟨_, fun W => ?_, fun W => docNarrow_over b s k hb hs hk hn (by omega) W⟩
          have h := narrow_fin b s k hb hs hk hfin W
          rw [nar_top k (by omega)] at h
          exact h
  obtain ⟨v, c1, c2⟩ := key
  have C1 := Lib.hid c1
  have C2 := Lib.hid c2
  clear c1 c2 he hf hs hk hs2 hsI
  go_enter Try.func3, Try.ntmps3
  go_wp2_with fail
  refine (C1.out _).mono ?_; rintro x w1 ⟨rfl, k1⟩
  have K1 := Lib.hid k1
  clear k1
  go_wp2_with fail
  refine (C2.out _).mono ?_; rintro x w2 ⟨rfl, k2⟩
  have K2 := Lib.hid (K1.out.trans (k2.mono K1.out.size))
  clear k2
  go_wp2_with fail
  go_ret
  exact ⟨by simp, K2.out⟩
theorem realNarrows_walk (a0 : Int) (w0 : (Lit.int .u64 a0).wf = true) (W : World) :
    Calls Try.prog 3 #[.int .u64 a0] W fun e w' => e = .returned (.bool true) ∧ Below W.heap.size W w' := by
  obtain ⟨b0, b1⟩ := bounds_u64 w0
  exact narrow_walk a0 b0 (by omega) W
end Go.Proofs.Ytdlphcfmbhhfgaa.Rn
