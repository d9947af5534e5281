/-
  PROVED HERE: the contract of the laws' own sameInts, at lists that are the same. Conditions: as each theorem states.
-/
import Derived.Test.YthkigjhbcempbaaDoorRows
import Derived.Test.YthkigjhbcempbaaDoorOwn
namespace Go.Proofs.YthkigjhbcempbaaDoor
open Go.RowKit

set_option maxRecDepth 100000 in
set_option maxHeartbeats 800000 in
theorem sameInts_any (a b : Value) (l : List Int) (W : World) (ha : Ints W a l) (hb : Ints W b l) (hl : l.length ≤ 1000000) :
    Calls Tryd.prog 17 #[a, b] W fun e w' => e = .returned (.bool true) ∧ Below W.heap.size W w' := by
  obtain ⟨x, cx, rfl, hx⟩ := ha
  obtain ⟨y, cy, rfl, hy⟩ := hb
  have HX := Lib.hid hx
  have HY := Lib.hid hy
  clear hx hy
  go_enter Tryd.func17, Tryd.ntmps17
  go_wp2_with fail
  go_loopw [5] (fun i wr => ∃ k : Nat, k ≤ l.length ∧ i = .int .i64 k ∧ Below W.heap.size W wr) (fun i _ => l.length - (intOf i).toNat)
  case atStart => exact ⟨0, Nat.zero_le _, rfl, Below.refl _ _⟩
  case round =>
    obtain ⟨k, hk, rfl, hB⟩ := hrel
    have hBH := Lib.hid hB
    clear hB
    by_cases hlt : k < l.length
    · obtain ⟨ax, rfl, cx0⟩ := HX.out k hlt
      obtain ⟨ay, rfl, cy0⟩ := HY.out k hlt
      have c1 := (hBH.out.cell (p := ax.add k) (World.block_lt_of_cell? W _ cx0)).trans cx0
      have c2 := (hBH.out.cell (p := ay.add k) (World.block_lt_of_cell? W _ cy0)).trans cy0
      have i1 : (0 : Int) ≤ (k : Int) := by omega
      have i2 : (k : Int) < (l.length : Int) := by omega
      clear cx0 cy0
      generalize l[k] = z at *
      have hne : (z != z) = false := by simp
      go_wp2_with fail
      go_quiet (fail)
      go_wp2_with fail
      go_roundw
      case rel => exact ⟨k + 1, by omega, by go_num, below_drewN hBH.out _⟩
      case measure => simp [intOf]; omega
    · go_wp2_with fail
      go_ret
      exact ⟨rfl, hBH.out⟩
end Go.Proofs.YthkigjhbcempbaaDoor
