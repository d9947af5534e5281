/-
  PROVED HERE: the contracts of the document's unitsCmp and realUnits. Conditions: as each theorem states.
-/
import Derived.Test.YtdlphcfmbhhfgaaRnE
import Derived.Test.YtdlphcfmbhhfgaaRnB
import Derived.Test.YtdlphcfmbhhfgaaRealD
import Derived.BigQuiet
import Derived.Deep.QuietTactic
namespace Go.Proofs.Ytdlphcfmbhhfgaa.Rn
open Go.RowKit Real
attribute [local go_sem ↓] Go.wp_at_zero Go.wp_at_succ
/-- Which is less: -1, 0, 1. -/
def cmpv (p q : Nat) : Int := if p < q then -1 else if p = q then 0 else 1
set_option maxRecDepth 100000 in
set_option maxHeartbeats 4000000 in
theorem unitsCmp_any (p q : Nat) (hp : p < B64 ^ 34) (hq : q < B64 ^ 34) (W : World) :
    Calls Try.prog 14 #[.agg (arr p).toArray, .agg (arr q).toArray] W fun e w' => e = .returned (.int .i64 (cmpv p q)) ∧ Below W.heap.size W w' := by
  have n0 := new_range W (arr p).toArray 42
  have n1 := new_range (W.alloc (.cells (arr p).toArray 42)) (arr q).toArray 42
  rw [World.size_alloc] at n1
  rw [List.toList_toArray] at n0 n1
  have HB0 : Hid (Below W.heap.size W ((W.alloc (.cells (arr p).toArray 42)).alloc (.cells (arr q).toArray 42))) := Lib.hid (((Below.refl _ _).alloc (Nat.le_refl _) _).alloc (by simp) _)
  have HR0 : Hid (((W.alloc (.cells (arr p).toArray 42)).alloc (.cells (arr q).toArray 42)).rangeAt W.heap.size 0 (arr p)) := Lib.hid (World.rangeAt_alloc n0.1 _)
  have HR1 : Hid (((W.alloc (.cells (arr p).toArray 42)).alloc (.cells (arr q).toArray 42)).rangeAt (W.heap.size + 1) 0 (arr q)) := Lib.hid n1.1
  obtain ⟨cv, hcv⟩ : ∃ cv, cmpv p q = cv := ⟨_, rfl⟩
  rw [hcv]
  have HCV := Lib.hid hcv
  clear hcv
  have HP := Lib.hid hp
  have HQ := Lib.hid hq
  clear n0 n1 hp hq
  generalize hA : (arr p).toArray = A at *
  generalize hB : (arr q).toArray = B at *
  clear hA hB
  go_enter Try.func14, Try.ntmps14
  go_wp2_with fail
  generalize (W.alloc (.cells A 42)).alloc (.cells B 42) = w0 at *
  go_loopw [5] (fun i wr => ∃ k : Nat, k ≤ 34 ∧ i = .int .i64 ((k : Int) - 1) ∧ Hid (∀ j, k ≤ j → j < 34 → wo p j = wo q j) ∧ Hid (Below w0.heap.size w0 wr)) (fun i _ => ((intOf i) + 1).toNat)
  case atStart => exact ⟨34, Nat.le_refl _, rfl, Lib.hid (fun j h1 h2 => by omega), Lib.hid (Below.refl _ _)⟩
  case round =>
    obtain ⟨k, hk, rfl, he, hB2⟩ := hrel
    by_cases hz : k = 0
    · subst hz
      have hpq := cmp_eq p q (fun j hj => he.out j (Nat.zero_le _) hj) HP.out HQ.out
      have hc : cmpv p q = 0 := by unfold cmpv; rw [hpq, if_neg (Nat.lt_irrefl _), if_pos rfl]
      have HC := Lib.hid (hc.symm.trans HCV.out)
      clear hc hpq
      go_wp2_with fail
      go_ret
      exact ⟨ret_int HC.out, HB0.out.trans (hB2.out.mono HB0.out.size)⟩
    · obtain ⟨j, rfl⟩ : ∃ j, k = j + 1 := ⟨k - 1, by omega⟩
      have hj : j < 34 := by omega
      have c1 := keepCell hB2.out (HR0.out j _ (arr_get p j hj))
      have c2 := keepCell hB2.out (HR1.out j _ (arr_get q j hj))
      rw [Nat.zero_add] at c1 c2
      have hji : (((j + 1 : Nat) : Int) - 1) = (j : Int) := by omega
      rw [hji]
      have i1 : (0 : Int) ≤ (j : Int) := by omega
      have i2 : (j : Int) < 34 := by omega
      have hq1 := cmp_step p q j (fun i h1 h2 => he.out i h1 h2) HP.out HQ.out hj
      rcases Nat.lt_trichotomy (wo p j) (wo q j) with h | h | h
      · have hlt := cmp_lt p q j hq1 h
        have hc : cmpv p q = -1 := by unfold cmpv; rw [if_pos hlt]
        have HC := Lib.hid (hc.symm.trans HCV.out)
        have e1 : (((wo p j : Nat) : Int) != ((wo q j : Nat) : Int)) = true := by rw [bne_iff_ne]; omega
        have e2 : decide (wo q j < wo p j) = false := decide_eq_false (by omega)
        generalize wo p j = x at *
        generalize wo q j = y at *
        clear hc hlt hq1 h
        go_wp2_with fail
        go_quiet (fail)
        go_wp2_with fail
        go_region_with ((go_at_call 9; (try rw [e2]); refine (one_f _).mono ?_; rintro e w9 ⟨rfl, rfl⟩))
        all_goals go_wp2_with fail
        all_goals go_ret
        all_goals exact ⟨ret_int HC.out, HB0.out.trans (Below.mono (by first | exact (below_drewN hB2.out _).drew | exact below_drewN (below_drewN hB2.out _) _ | exact below_drewN hB2.out _) HB0.out.size)⟩
      · have e1 : (((wo p j : Nat) : Int) != ((wo q j : Nat) : Int)) = false := by rw [bne_eq_false_iff_eq]; omega
        have he2 : Hid (∀ i, j ≤ i → i < 34 → wo p i = wo q i) := Lib.hid (fun i h1 h2 => by
          by_cases c : i = j
          · rw [c]; exact h
          · exact he.out i (by omega) h2)
        generalize wo p j = x at *
        generalize wo q j = y at *
        clear hq1 h
        go_wp2_with fail
        go_quiet (fail)
        go_wp2_with fail
        go_roundw
        case rel => exact ⟨j, by omega, rfl, he2, Lib.hid (below_drewN hB2.out _)⟩
        case measure => first | (simp [intOf]; done) | (simp [intOf]; omega)
      · have hlt := cmp_lt q p j hq1.symm h
        have hc : cmpv p q = 1 := by unfold cmpv; rw [if_neg (by omega), if_neg (by omega)]
        have HC := Lib.hid (hc.symm.trans HCV.out)
        have e1 : (((wo p j : Nat) : Int) != ((wo q j : Nat) : Int)) = true := by rw [bne_iff_ne]; omega
        have e2 : decide (wo q j < wo p j) = true := decide_eq_true (by omega)
        generalize wo p j = x at *
        generalize wo q j = y at *
        clear hc hlt hq1 h
        go_wp2_with fail
        go_quiet (fail)
        go_wp2_with fail
        go_region_with ((go_at_call 9; (try rw [e2]); refine (one_t _).mono ?_; rintro e w9 ⟨rfl, rfl⟩))
        all_goals go_wp2_with fail
        all_goals go_ret
        all_goals exact ⟨ret_int HC.out, HB0.out.trans (Below.mono (by first | exact (below_drewN hB2.out _).drew | exact below_drewN (below_drewN hB2.out _) _ | exact below_drewN hB2.out _) HB0.out.size)⟩
end Go.Proofs.Ytdlphcfmbhhfgaa.Rn
