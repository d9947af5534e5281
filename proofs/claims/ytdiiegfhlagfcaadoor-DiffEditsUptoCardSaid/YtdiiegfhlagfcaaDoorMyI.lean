/-
  PROVED HERE: the contract of the document's DiffFar. Conditions: as each theorem states.
-/
import Derived.Test.YtdiiegfhlagfcaaDoorMyH
namespace Go.Proofs.YtdiiegfhlagfcaaDoor.My
open Go.RowKit
set_option maxRecDepth 100000 in
set_option maxHeartbeats 4000000 in
theorem docfar_any (a b : ByteArray) (hs : a.size + b.size ≤ 300) (W : World) :
    Calls Tryd.prog 4 #[.string a, .string b] W fun e w' => e = .returned (.tuple #[.int .i64 (D a b : Nat), .int .i64 0]) ∧ Below W.heap.size W w' := by
  have HC := Lib.hid (common_any a b hs W)
  have hd := d_is a b
  obtain ⟨d, hD⟩ : ∃ d, D a b = d := ⟨_, rfl⟩
  rw [hD] at hd ⊢
  obtain ⟨t, ht⟩ : ∃ t, T a b 0 0 = t := ⟨_, rfl⟩
  rw [ht] at hd
  have e1 : (a.size : Int) + (b.size : Int) - 2 * (t : Int) = (d : Int) := by omega
  have z : t ≤ 300 := by omega
  have n0 : (0 : Int) < (a.size : Int) + 1 := by omega
  have n1 : (0 : Int) < (b.size : Int) + 1 := by omega
  go_enter Tryd.func4, Tryd.ntmps4
  go_wp2_with (go_at_call 10; (with_reducible refine (HC.out).mono ?_); rintro e w2 ⟨rfl, hT, hB⟩; have r0 := hT.out 0 (Nat.zero_le _) trivial; have d0 := (hT.row 0 (Nat.zero_le _) trivial 0 (Nat.zero_le _)).1; rw [ht] at d0; have hBH := Lib.hid hB; clear hT hB)
  go_ret2
  exact ⟨rfl, hBH.out⟩
end Go.Proofs.YtdiiegfhlagfcaaDoor.My
