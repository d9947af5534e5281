/-
  PROVED HERE: the contract of the laws' sameEdits. Conditions: as each theorem states.
-/
import Derived.Test.YtdiiegfhlagfcaaDoorMyJ
import Derived.Test.YtdiiegfhlagfcaaDoorTac
import Derived.Deep.QuietTactic
import Derived.BigQuiet
namespace Go.Proofs.YtdiiegfhlagfcaaDoor.My
open Go.RowKit
set_option maxRecDepth 100000 in
/-- Two lists of the same edits. -/
theorem same_any (u v : Value) (l : List Ed) (W : World) (hu : Eds W u l) (hv : Eds W v l) (hn : l.length ≤ 400) :
    Calls Tryd.prog 9 #[u, v] W fun e w' => e = .returned (.bool true) ∧ Below W.heap.size W w' := by
  have huH := Lib.hid hu
  have hvH := Lib.hid hv
  obtain ⟨a, cap, rfl, -⟩ := hu
  obtain ⟨b, cap', rfl, -⟩ := hv
  go_enter Tryd.func9, Tryd.ntmps9
  go_wp2_with fail
  go_loopw [5] (fun i wr => ∃ k : Nat, k ≤ l.length ∧ i = .int .i64 k ∧ Hid (Below W.heap.size W wr)) (fun i _ => l.length - (intOf i).toNat)
  case atStart => exact ⟨0, Nat.zero_le _, rfl, Lib.hid (Below.refl _ _)⟩
  case round =>
    obtain ⟨k, hk, rfl, hB⟩ := hrel
    by_cases hlt : k < l.length
    · obtain ⟨ad, rfl, d0, d1, d2⟩ := huH.out.at_ k hlt
      obtain ⟨ad', rfl, e0, e1, e2⟩ := hvH.out.at_ k hlt
      generalize l[k] = e at *
      obtain ⟨wh, n, tx⟩ := e
      simp only at d0 d1 d2 e0 e1 e2
      have d0 := keepCell hB.out d0
      have d1 := keepCell hB.out d1
      have d2 := keepCell hB.out d2
      have e0 := keepCell hB.out e0
      have e1 := keepCell hB.out e1
      have e2 := keepCell hB.out e2
      have i1 : (0 : Int) ≤ (k : Int) := by omega
      have i2 : (k : Int) < (l.length : Int) := by omega
      go_wp2_with fail
      go_quiet (fail)
      have hB2 := Lib.hid (below_drewN hB.out nq)
      go_wp2_with fail
      go_roundw
      case rel => first | exact ⟨k + 1, by omega, by go_num, hB2⟩ | ((repeat apply Exists.intro); exact ⟨⟨k + 1, by omega, by go_num, hB2⟩, rfl⟩)
      case measure => simp [intOf]; omega
    · obtain rfl : k = l.length := by omega
      go_wp2_with fail
      go_ret
      exact ⟨rfl, hB.out⟩
end Go.Proofs.YtdiiegfhlagfcaaDoor.My
