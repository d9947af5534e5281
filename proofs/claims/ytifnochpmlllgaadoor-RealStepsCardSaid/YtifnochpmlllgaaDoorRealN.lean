/-
  PROVED HERE: contracts of the document's RealKey and RealNext. Conditions: as each theorem states.
-/
import Derived.Test.YtifnochpmlllgaaDoorRows
import Derived.Test.YtifnochpmlllgaaDoorRealD
import Derived.Test.YtifnochpmlllgaaDoorRealI
namespace Go.Proofs.YtifnochpmlllgaaDoor.Real
open Go.RowKit

def kvD (N : Bool) (l : Int) : Int := if N then -l - 1 else l
/-- The bits one step on: S: away from nought. -/
def stepV (M : Int) (N S : Bool) (l : Int) : Int := if S then (if N then M else 0) + (l + 1) else if l = 0 then (if N then 0 else M) else (if N then M else 0) + (l - 1)
set_option maxRecDepth 100000 in
theorem docKey_no (b n : Int) (h32 : n ≠ 32) (h64 : n ≠ 64) (W : World) :
    Calls Tryd.prog 37 #[.int .u64 b, .int .i64 n] W fun e w' => e = .returned (.tuple #[.int .i64 0, .int .i64 1]) ∧ Below W.heap.size W w' := by
  have C := Lib.hid (fun W => docApart_no b n h32 h64 W)
  clear h32 h64
  go_enter Tryd.func37, Tryd.ntmps37
  go_wp2_with fail
  refine (C.out _).mono ?_; rintro e w' ⟨rfl, hb⟩
  have hbH := Lib.hid hb
  clear hb
  go_wp2_with fail
  go_ret2
  exact ⟨rfl, hbH.out.alloc hbH.out.size _⟩
set_option maxRecDepth 100000 in
theorem docNext_no (b n g : Int) (h32 : n ≠ 32) (h64 : n ≠ 64) (W : World) :
    Calls Tryd.prog 39 #[.int .u64 b, .int .i64 n, .int .i64 g] W fun e w' => e = .returned (.tuple #[.int .u64 0, .int .i64 1]) ∧ Below W.heap.size W w' := by
  have C := Lib.hid (fun W => docClass_no b n h32 h64 W)
  clear h32 h64
  go_enter Tryd.func39, Tryd.ntmps39
  go_wp2_with fail
  refine (C.out _).mono ?_; rintro e w' ⟨rfl, hb⟩
  have hbH := Lib.hid hb
  clear hb
  go_wp2_with fail
  go_ret2
  exact ⟨rfl, hbH.out⟩

set_option maxRecDepth 100000 in
set_option maxHeartbeats 1000000 in
theorem docKey_32 (b : Int) (h0 : 0 ≤ b) (h1 : b ≤ 18446744073709551615) (W : World) :
    Calls Tryd.prog 37 #[.int .u64 b, .int .i64 32] W fun e w' => e = .returned (.tuple #[.int .i64 (kvD (neg32 b) (b % 2147483648)), .int .i64 0]) ∧ Below W.heap.size W w' := by
  have C := Lib.hid (fun W => docApart_32 b h0 h1 W)
  have hs : b % 2147483648 = exp32 b * 8388608 + frac32 b := by unfold exp32 frac32; omega
  obtain ⟨he0, he1⟩ := exp32_bd b
  obtain ⟨hf0, hf1⟩ := frac32_bd b
  rw [hs]
  clear hs
  generalize exp32 b = E at *
  generalize frac32 b = F at *
  generalize neg32 b = N at *
  have t2 : p2 23 = 8388608 := by decide
  have k1 : IntKind.i64.wrap 8388608 = 8388608 := by decide
  have k2 : IntKind.i64.wrap (E * 8388608) = E * 8388608 := IntWalk.i64_in _ (by omega)
  have k3 : IntKind.i64.wrap F = F := IntWalk.i64_in _ (by omega)
  have k4 : IntKind.i64.wrap (E * 8388608 + F) = E * 8388608 + F := IntWalk.i64_in _ (by omega)
  cases N
  all_goals
    go_enter Tryd.func37, Tryd.ntmps37
    go_wp2_with fail
    refine (C.out _).mono ?_; rintro e w1 ⟨rfl, hb⟩
    have H1 := Lib.hid hb
    clear hb
    go_wp2_with fail
    refine (docForm_32 _).mono ?_; rintro e w2 ⟨rfl, hw⟩
    have c0 := (congrArg (fun w : World => w.cell? ⟨w1.heap.size, 0, none⟩) hw).symm
    have c1 : w2.cell? ⟨w1.heap.size, 1, none⟩ = some (.int .i64 E) := by rw [← hw]; simp
    have c2 : w2.cell? ⟨w1.heap.size, 2, none⟩ = some (.int .u64 F) := by rw [← hw]; simp
    simp at c0
    have H2 := Lib.hid (show Below W.heap.size W w2 by rw [← hw]; exact H1.out.alloc H1.out.size _)
    clear hw
    go_wp2_with fail
    go_quiet ((go_at_call 73; exact Calls.quiet_of_same (pow2_q _ (by omega) (by omega) _)))
    go_wp2_with fail
    go_ret2
    exact ⟨by simp [kvD]; try omega, below_drewN H2.out _⟩
set_option maxRecDepth 100000 in
set_option maxHeartbeats 2000000 in
theorem docNext_32_bad (b g c : Int) (N : Bool) (h0 : 0 ≤ b) (h1 : b ≤ 18446744073709551615) (hg : g = 1 ∨ g = -1) (hN : neg32 b = N) (hcl : cls 255 (exp32 b) (frac32 b) = c) (hc : c = 4 ∨ (c = 3 ∧ N = decide (g < 0))) (W : World) :
    Calls Tryd.prog 39 #[.int .u64 b, .int .i64 32, .int .i64 g] W fun e w' => e = .returned (.tuple #[.int .u64 0, .int .i64 2]) ∧ Below W.heap.size W w' := by
  have C := Lib.hid (fun W => docApart_32 b h0 h1 W)
  have D := Lib.hid (fun W => docClass_32 b h0 h1 W)
  rw [hcl] at D
  rw [hN] at C
  clear hN hcl
  generalize exp32 b = E at *
  generalize frac32 b = F at *
  rcases hc with rfl | ⟨rfl, hS⟩
  · go_enter Tryd.func39, Tryd.ntmps39
    go_wp2_with fail
    refine (D.out _).mono ?_; rintro e w1 ⟨rfl, hb⟩
    have H1 := Lib.hid hb
    clear hb
    go_wp2_with fail
    refine (C.out _).mono ?_; rintro e w2 ⟨rfl, hb⟩
    have H2 := Lib.hid (H1.out.trans (hb.mono H1.out.size))
    clear hb
    go_wp2_with fail
    go_ret2
    exact ⟨rfl, H2.out.alloc H2.out.size _⟩
  · rcases hg with rfl | rfl
    all_goals
      subst hS
      go_enter Tryd.func39, Tryd.ntmps39
      go_wp2_with fail
      refine (D.out _).mono ?_; rintro e w1 ⟨rfl, hb⟩
      have H1 := Lib.hid hb
      clear hb
      go_wp2_with fail
      refine (C.out _).mono ?_; rintro e w2 ⟨rfl, hb⟩
      have H2 := Lib.hid (H1.out.trans (hb.mono H1.out.size))
      clear hb
      go_wp2_with fail
      go_ret2
      exact ⟨rfl, H2.out.alloc H2.out.size _⟩

set_option maxRecDepth 100000 in
set_option maxHeartbeats 1000000 in
theorem docKey_64 (b : Int) (h0 : 0 ≤ b) (h1 : b ≤ 18446744073709551615) (W : World) :
    Calls Tryd.prog 37 #[.int .u64 b, .int .i64 64] W fun e w' => e = .returned (.tuple #[.int .i64 (kvD (neg64 b) (b % 9223372036854775808)), .int .i64 0]) ∧ Below W.heap.size W w' := by
  have C := Lib.hid (fun W => docApart_64 b h0 h1 W)
  have hs : b % 9223372036854775808 = exp64 b * 4503599627370496 + frac64 b := by unfold exp64 frac64; omega
  obtain ⟨he0, he1⟩ := exp64_bd b
  obtain ⟨hf0, hf1⟩ := frac64_bd b
  rw [hs]
  clear hs
  generalize exp64 b = E at *
  generalize frac64 b = F at *
  generalize neg64 b = N at *
  have t2 : p2 52 = 4503599627370496 := by decide
  have k1 : IntKind.i64.wrap 4503599627370496 = 4503599627370496 := by decide
  have k2 : IntKind.i64.wrap (E * 4503599627370496) = E * 4503599627370496 := IntWalk.i64_in _ (by omega)
  have k3 : IntKind.i64.wrap F = F := IntWalk.i64_in _ (by omega)
  have k4 : IntKind.i64.wrap (E * 4503599627370496 + F) = E * 4503599627370496 + F := IntWalk.i64_in _ (by omega)
  cases N
  all_goals
    go_enter Tryd.func37, Tryd.ntmps37
    go_wp2_with fail
    refine (C.out _).mono ?_; rintro e w1 ⟨rfl, hb⟩
    have H1 := Lib.hid hb
    clear hb
    go_wp2_with fail
    refine (docForm_64 _).mono ?_; rintro e w2 ⟨rfl, hw⟩
    have c0 := (congrArg (fun w : World => w.cell? ⟨w1.heap.size, 0, none⟩) hw).symm
    have c1 : w2.cell? ⟨w1.heap.size, 1, none⟩ = some (.int .i64 E) := by rw [← hw]; simp
    have c2 : w2.cell? ⟨w1.heap.size, 2, none⟩ = some (.int .u64 F) := by rw [← hw]; simp
    simp at c0
    have H2 := Lib.hid (show Below W.heap.size W w2 by rw [← hw]; exact H1.out.alloc H1.out.size _)
    clear hw
    go_wp2_with fail
    go_quiet ((go_at_call 73; exact Calls.quiet_of_same (pow2_q _ (by omega) (by omega) _)))
    go_wp2_with fail
    go_ret2
    exact ⟨by simp [kvD]; try omega, below_drewN H2.out _⟩
set_option maxRecDepth 100000 in
set_option maxHeartbeats 2000000 in
theorem docNext_64_bad (b g c : Int) (N : Bool) (h0 : 0 ≤ b) (h1 : b ≤ 18446744073709551615) (hg : g = 1 ∨ g = -1) (hN : neg64 b = N) (hcl : cls 2047 (exp64 b) (frac64 b) = c) (hc : c = 4 ∨ (c = 3 ∧ N = decide (g < 0))) (W : World) :
    Calls Tryd.prog 39 #[.int .u64 b, .int .i64 64, .int .i64 g] W fun e w' => e = .returned (.tuple #[.int .u64 0, .int .i64 2]) ∧ Below W.heap.size W w' := by
  have C := Lib.hid (fun W => docApart_64 b h0 h1 W)
  have D := Lib.hid (fun W => docClass_64 b h0 h1 W)
  rw [hcl] at D
  rw [hN] at C
  clear hN hcl
  generalize exp64 b = E at *
  generalize frac64 b = F at *
  rcases hc with rfl | ⟨rfl, hS⟩
  · go_enter Tryd.func39, Tryd.ntmps39
    go_wp2_with fail
    refine (D.out _).mono ?_; rintro e w1 ⟨rfl, hb⟩
    have H1 := Lib.hid hb
    clear hb
    go_wp2_with fail
    refine (C.out _).mono ?_; rintro e w2 ⟨rfl, hb⟩
    have H2 := Lib.hid (H1.out.trans (hb.mono H1.out.size))
    clear hb
    go_wp2_with fail
    go_ret2
    exact ⟨rfl, H2.out.alloc H2.out.size _⟩
  · rcases hg with rfl | rfl
    all_goals
      subst hS
      go_enter Tryd.func39, Tryd.ntmps39
      go_wp2_with fail
      refine (D.out _).mono ?_; rintro e w1 ⟨rfl, hb⟩
      have H1 := Lib.hid hb
      clear hb
      go_wp2_with fail
      refine (C.out _).mono ?_; rintro e w2 ⟨rfl, hb⟩
      have H2 := Lib.hid (H1.out.trans (hb.mono H1.out.size))
      clear hb
      go_wp2_with fail
      go_ret2
      exact ⟨rfl, H2.out.alloc H2.out.size _⟩
end Go.Proofs.YtifnochpmlllgaaDoor.Real
