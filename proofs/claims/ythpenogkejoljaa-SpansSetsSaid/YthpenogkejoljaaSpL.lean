/-
  PROVED HERE: sameSpans of one list twice. Conditions: as each theorem states.
-/
import Derived.Test.YthpenogkejoljaaSpK
namespace Go.Proofs.Ythpenogkejoljaa.Sp
open Go.RowKit
set_option maxRecDepth 100000 in
set_option maxHeartbeats 2000000 in
theorem same_any (w : World) (va vb : Value) (l : List Spn) (ha : Sps w va l) (hb : Sps w vb l) (hn : l.length ≤ 100000) : Calls Try.prog 9 #[va, vb] w fun e w' => e = .returned (.bool true) ∧ Below w.heap.size w w' := by
  have HA := Lib.hid ha
  have HB := Lib.hid hb
  obtain ⟨a, cap, rfl, -⟩ := ha
  obtain ⟨b, cap2, rfl, -⟩ := hb
  go_enter Try.func9, Try.ntmps9
  go_wp2_with fail
  go_loopw [5] (fun i wr => ∃ k : Nat, k ≤ l.length ∧ i = .int .i64 (k : Int) ∧ Hid (Below w.heap.size w wr)) (fun i _ => l.length - (intOf i).toNat)
  case atStart => exact ⟨0, Nat.zero_le _, rfl, Lib.hid (Below.refl _ _)⟩
  case round =>
    obtain ⟨k, hk, rfl, hW⟩ := hrel
    by_cases hlt : k < l.length
    · obtain ⟨ad, rfl, x0, x1⟩ := HA.out.at_ k hlt
      obtain ⟨bd, rfl, y0, y1⟩ := HB.out.at_ k hlt
      have i1 : (0 : Int) ≤ (k : Int) := by omega
      have i2 : (k : Int) < (l.length : Int) := by omega
      have p0 := keepCell hW.out x0
      have p1 := keepCell hW.out x1
      have q0 := keepCell hW.out y0
      have q1 := keepCell hW.out y1
      clear x0 x1 y0 y1
      generalize l[k] = x at *
      obtain ⟨xf, xt⟩ := x
      simp only at p0 p1 q0 q1
      go_upto_region 6 with fail
      go_quiet (fail)
      all_goals
        go_wp2_with fail
        have hW2 := Lib.hid (below_drewN hW.out nq)
        go_roundw
        case rel => first | exact ⟨k + 1, by omega, by go_num, hW2⟩ | ((repeat apply Exists.intro); exact ⟨⟨k + 1, by omega, by go_num, hW2⟩, rfl⟩)
        case measure => simp [intOf]; omega
    · obtain rfl : k = l.length := by omega
      clear HA HB
      go_wp2_with fail
      go_ret
      exact ⟨rfl, hW.out⟩
end Go.Proofs.Ythpenogkejoljaa.Sp
