/-
  PROVED HERE: contracts of the document's RealClass at every width. Conditions: as each theorem states.
-/
import Derived.Test.YtdlphcfmbhhfgaaRows
import Derived.Test.YtdlphcfmbhhfgaaRealB
namespace Go.Proofs.Ytdlphcfmbhhfgaa.Real
open Go.RowKit

/-- Which class: mask is the exponent whose bits are all 1. -/
def cls (mask e f : Int) : Int := if e = mask then (if 0 < f then 4 else 3) else if 0 < e then 2 else if 0 < f then 1 else 0
theorem exp32_bd (b : Int) : 0 ≤ exp32 b ∧ exp32 b ≤ 255 := by unfold exp32; omega
theorem frac32_bd (b : Int) : 0 ≤ frac32 b ∧ frac32 b ≤ 8388607 := by unfold frac32; omega
theorem exp64_bd (b : Int) : 0 ≤ exp64 b ∧ exp64 b ≤ 2047 := by unfold exp64; omega
theorem frac64_bd (b : Int) : 0 ≤ frac64 b ∧ frac64 b ≤ 4503599627370495 := by unfold frac64; omega

set_option maxRecDepth 100000 in
set_option maxHeartbeats 1000000 in
theorem docClass_32 (b : Int) (h0 : 0 ≤ b) (h1 : b ≤ 18446744073709551615) (W : World) :
    Calls Try.prog 8 #[.int .u64 b, .int .i64 32] W fun e w' => e = .returned (.tuple #[.int .i64 (cls 255 (exp32 b) (frac32 b)), .int .i64 0]) ∧ Below W.heap.size W w' := by
  have C := Lib.hid (docApart_32 b h0 h1 W)
  obtain ⟨he0, he1⟩ := exp32_bd b
  obtain ⟨hf0, hf1⟩ := frac32_bd b
  clear h0 h1
  generalize exp32 b = E at *
  generalize frac32 b = F at *
  generalize neg32 b = N at *
  by_cases hE : E = 255
  · subst hE
    have k3 : IntKind.u64.wrap (255 : Int) = 255 := by decide
    have k4 : IntKind.u64.wrap (256 : Int) = 256 := by decide
    by_cases hF : 0 < F
    · have hcls : cls 255 255 F = 4 := by unfold cls; rw [if_pos rfl, if_pos hF]
      rw [hcls]
      clear hcls
      go_enter Try.func8, Try.ntmps8
      go_wp2_with fail
      refine C.out.mono ?_; rintro e w1 ⟨rfl, hb⟩
      have hbH := Lib.hid hb
      clear hb
      go_wp2_with fail
      refine (docForm_32 _).mono ?_; rintro e w2 ⟨rfl, hw⟩
      have c1 : w2.cell? ⟨w1.heap.size, 1, none⟩ = some (.int .i64 255) := by rw [← hw]; simp
      have c2 : w2.cell? ⟨w1.heap.size, 2, none⟩ = some (.int .u64 F) := by rw [← hw]; simp
      have hb2 := Lib.hid (show Below W.heap.size W w2 by rw [← hw]; exact hbH.out.alloc hbH.out.size _)
      clear hw
      go_wp2_with fail
      go_quiet ((go_at_call 10; exact Calls.quiet_of_same (pow2_is 8 (by omega) (by omega) 256 (by decide) _)))
      go_wp2_with fail
      refine (one_t _).mono ?_; rintro e w3 ⟨rfl, rfl⟩
      go_wp2_with fail
      go_ret2
      first | exact ⟨rfl, below_drewN hb2.out _⟩ | exact ⟨rfl, below_drewN (below_drewN hb2.out _) _⟩
    · have hcls : cls 255 255 F = 3 := by unfold cls; rw [if_pos rfl, if_neg hF]
      rw [hcls]
      clear hcls
      have hd : decide (0 < F) = false := by simp; omega
      go_enter Try.func8, Try.ntmps8
      go_wp2_with fail
      refine C.out.mono ?_; rintro e w1 ⟨rfl, hb⟩
      have hbH := Lib.hid hb
      clear hb
      go_wp2_with fail
      refine (docForm_32 _).mono ?_; rintro e w2 ⟨rfl, hw⟩
      have c1 : w2.cell? ⟨w1.heap.size, 1, none⟩ = some (.int .i64 255) := by rw [← hw]; simp
      have c2 : w2.cell? ⟨w1.heap.size, 2, none⟩ = some (.int .u64 F) := by rw [← hw]; simp
      have hb2 := Lib.hid (show Below W.heap.size W w2 by rw [← hw]; exact hbH.out.alloc hbH.out.size _)
      clear hw
      go_wp2_with fail
      go_quiet ((go_at_call 10; exact Calls.quiet_of_same (pow2_is 8 (by omega) (by omega) 256 (by decide) _)))
      go_wp2_with fail
      refine (one_f _).mono ?_; rintro e w3 ⟨rfl, rfl⟩
      go_wp2_with fail
      go_ret2
      first | exact ⟨rfl, below_drewN hb2.out _⟩ | exact ⟨rfl, below_drewN (below_drewN hb2.out _) _⟩
  · have hE' : (E + 1 == 256) = false := by rw [beq_eq_false_iff_ne]; omega
    have k3 : IntKind.u64.wrap E = E := by rw [IntKind.wrap_u64]; omega
    have k4 : IntKind.u64.wrap (E + 1) = E + 1 := by rw [IntKind.wrap_u64]; omega
    by_cases hE0 : 0 < E
    · have hcls : cls 255 E F = 2 := by unfold cls; rw [if_neg hE, if_pos hE0]
      rw [hcls]
      clear hcls hE
      go_enter Try.func8, Try.ntmps8
      go_wp2_with fail
      refine C.out.mono ?_; rintro e w1 ⟨rfl, hb⟩
      have hbH := Lib.hid hb
      clear hb
      go_wp2_with fail
      refine (docForm_32 _).mono ?_; rintro e w2 ⟨rfl, hw⟩
      have c1 : w2.cell? ⟨w1.heap.size, 1, none⟩ = some (.int .i64 E) := by rw [← hw]; simp
      have c2 : w2.cell? ⟨w1.heap.size, 2, none⟩ = some (.int .u64 F) := by rw [← hw]; simp
      have hb2 := Lib.hid (show Below W.heap.size W w2 by rw [← hw]; exact hbH.out.alloc hbH.out.size _)
      clear hw
      go_wp2_with fail
      go_quiet ((go_at_call 10; exact Calls.quiet_of_same (pow2_is 8 (by omega) (by omega) 256 (by decide) _)))
      go_wp2_with fail
      go_ret2
      first | exact ⟨rfl, below_drewN hb2.out _⟩ | exact ⟨rfl, below_drewN (below_drewN hb2.out _) _⟩
    · by_cases hF : 0 < F
      · have hcls : cls 255 E F = 1 := by unfold cls; rw [if_neg hE, if_neg hE0, if_pos hF]
        rw [hcls]
        clear hcls hE
        go_enter Try.func8, Try.ntmps8
        go_wp2_with fail
        refine C.out.mono ?_; rintro e w1 ⟨rfl, hb⟩
        have hbH := Lib.hid hb
        clear hb
        go_wp2_with fail
        refine (docForm_32 _).mono ?_; rintro e w2 ⟨rfl, hw⟩
        have c1 : w2.cell? ⟨w1.heap.size, 1, none⟩ = some (.int .i64 E) := by rw [← hw]; simp
        have c2 : w2.cell? ⟨w1.heap.size, 2, none⟩ = some (.int .u64 F) := by rw [← hw]; simp
        have hb2 := Lib.hid (show Below W.heap.size W w2 by rw [← hw]; exact hbH.out.alloc hbH.out.size _)
        clear hw
        go_wp2_with fail
        go_quiet ((go_at_call 10; exact Calls.quiet_of_same (pow2_is 8 (by omega) (by omega) 256 (by decide) _)))
        go_wp2_with fail
        refine (one_t _).mono ?_; rintro e w3 ⟨rfl, rfl⟩
        go_wp2_with fail
        go_ret2
        first | exact ⟨rfl, below_drewN hb2.out _⟩ | exact ⟨rfl, below_drewN (below_drewN hb2.out _) _⟩
      · have hcls : cls 255 E F = 0 := by unfold cls; rw [if_neg hE, if_neg hE0, if_neg hF]
        rw [hcls]
        clear hcls hE
        have hd : decide (0 < F) = false := by simp; omega
        go_enter Try.func8, Try.ntmps8
        go_wp2_with fail
        refine C.out.mono ?_; rintro e w1 ⟨rfl, hb⟩
        have hbH := Lib.hid hb
        clear hb
        go_wp2_with fail
        refine (docForm_32 _).mono ?_; rintro e w2 ⟨rfl, hw⟩
        have c1 : w2.cell? ⟨w1.heap.size, 1, none⟩ = some (.int .i64 E) := by rw [← hw]; simp
        have c2 : w2.cell? ⟨w1.heap.size, 2, none⟩ = some (.int .u64 F) := by rw [← hw]; simp
        have hb2 := Lib.hid (show Below W.heap.size W w2 by rw [← hw]; exact hbH.out.alloc hbH.out.size _)
        clear hw
        go_wp2_with fail
        go_quiet ((go_at_call 10; exact Calls.quiet_of_same (pow2_is 8 (by omega) (by omega) 256 (by decide) _)))
        go_wp2_with fail
        refine (one_f _).mono ?_; rintro e w3 ⟨rfl, rfl⟩
        go_wp2_with fail
        go_ret2
        first | exact ⟨rfl, below_drewN hb2.out _⟩ | exact ⟨rfl, below_drewN (below_drewN hb2.out _) _⟩
set_option maxRecDepth 100000 in
set_option maxHeartbeats 1000000 in
theorem docClass_64 (b : Int) (h0 : 0 ≤ b) (h1 : b ≤ 18446744073709551615) (W : World) :
    Calls Try.prog 8 #[.int .u64 b, .int .i64 64] W fun e w' => e = .returned (.tuple #[.int .i64 (cls 2047 (exp64 b) (frac64 b)), .int .i64 0]) ∧ Below W.heap.size W w' := by
  have C := Lib.hid (docApart_64 b h0 h1 W)
  obtain ⟨he0, he1⟩ := exp64_bd b
  obtain ⟨hf0, hf1⟩ := frac64_bd b
  clear h0 h1
  generalize exp64 b = E at *
  generalize frac64 b = F at *
  generalize neg64 b = N at *
  by_cases hE : E = 2047
  · subst hE
    have k3 : IntKind.u64.wrap (2047 : Int) = 2047 := by decide
    have k4 : IntKind.u64.wrap (2048 : Int) = 2048 := by decide
    by_cases hF : 0 < F
    · have hcls : cls 2047 2047 F = 4 := by unfold cls; rw [if_pos rfl, if_pos hF]
      rw [hcls]
      clear hcls
      go_enter Try.func8, Try.ntmps8
      go_wp2_with fail
      refine C.out.mono ?_; rintro e w1 ⟨rfl, hb⟩
      have hbH := Lib.hid hb
      clear hb
      go_wp2_with fail
      refine (docForm_64 _).mono ?_; rintro e w2 ⟨rfl, hw⟩
      have c1 : w2.cell? ⟨w1.heap.size, 1, none⟩ = some (.int .i64 2047) := by rw [← hw]; simp
      have c2 : w2.cell? ⟨w1.heap.size, 2, none⟩ = some (.int .u64 F) := by rw [← hw]; simp
      have hb2 := Lib.hid (show Below W.heap.size W w2 by rw [← hw]; exact hbH.out.alloc hbH.out.size _)
      clear hw
      go_wp2_with fail
      go_quiet ((go_at_call 10; exact Calls.quiet_of_same (pow2_is 11 (by omega) (by omega) 2048 (by decide) _)))
      go_wp2_with fail
      refine (one_t _).mono ?_; rintro e w3 ⟨rfl, rfl⟩
      go_wp2_with fail
      go_ret2
      first | exact ⟨rfl, below_drewN hb2.out _⟩ | exact ⟨rfl, below_drewN (below_drewN hb2.out _) _⟩
    · have hcls : cls 2047 2047 F = 3 := by unfold cls; rw [if_pos rfl, if_neg hF]
      rw [hcls]
      clear hcls
      have hd : decide (0 < F) = false := by simp; omega
      go_enter Try.func8, Try.ntmps8
      go_wp2_with fail
      refine C.out.mono ?_; rintro e w1 ⟨rfl, hb⟩
      have hbH := Lib.hid hb
      clear hb
      go_wp2_with fail
      refine (docForm_64 _).mono ?_; rintro e w2 ⟨rfl, hw⟩
      have c1 : w2.cell? ⟨w1.heap.size, 1, none⟩ = some (.int .i64 2047) := by rw [← hw]; simp
      have c2 : w2.cell? ⟨w1.heap.size, 2, none⟩ = some (.int .u64 F) := by rw [← hw]; simp
      have hb2 := Lib.hid (show Below W.heap.size W w2 by rw [← hw]; exact hbH.out.alloc hbH.out.size _)
      clear hw
      go_wp2_with fail
      go_quiet ((go_at_call 10; exact Calls.quiet_of_same (pow2_is 11 (by omega) (by omega) 2048 (by decide) _)))
      go_wp2_with fail
      refine (one_f _).mono ?_; rintro e w3 ⟨rfl, rfl⟩
      go_wp2_with fail
      go_ret2
      first | exact ⟨rfl, below_drewN hb2.out _⟩ | exact ⟨rfl, below_drewN (below_drewN hb2.out _) _⟩
  · have hE' : (E + 1 == 2048) = false := by rw [beq_eq_false_iff_ne]; omega
    have k3 : IntKind.u64.wrap E = E := by rw [IntKind.wrap_u64]; omega
    have k4 : IntKind.u64.wrap (E + 1) = E + 1 := by rw [IntKind.wrap_u64]; omega
    by_cases hE0 : 0 < E
    · have hcls : cls 2047 E F = 2 := by unfold cls; rw [if_neg hE, if_pos hE0]
      rw [hcls]
      clear hcls hE
      go_enter Try.func8, Try.ntmps8
      go_wp2_with fail
      refine C.out.mono ?_; rintro e w1 ⟨rfl, hb⟩
      have hbH := Lib.hid hb
      clear hb
      go_wp2_with fail
      refine (docForm_64 _).mono ?_; rintro e w2 ⟨rfl, hw⟩
      have c1 : w2.cell? ⟨w1.heap.size, 1, none⟩ = some (.int .i64 E) := by rw [← hw]; simp
      have c2 : w2.cell? ⟨w1.heap.size, 2, none⟩ = some (.int .u64 F) := by rw [← hw]; simp
      have hb2 := Lib.hid (show Below W.heap.size W w2 by rw [← hw]; exact hbH.out.alloc hbH.out.size _)
      clear hw
      go_wp2_with fail
      go_quiet ((go_at_call 10; exact Calls.quiet_of_same (pow2_is 11 (by omega) (by omega) 2048 (by decide) _)))
      go_wp2_with fail
      go_ret2
      first | exact ⟨rfl, below_drewN hb2.out _⟩ | exact ⟨rfl, below_drewN (below_drewN hb2.out _) _⟩
    · by_cases hF : 0 < F
      · have hcls : cls 2047 E F = 1 := by unfold cls; rw [if_neg hE, if_neg hE0, if_pos hF]
        rw [hcls]
        clear hcls hE
        go_enter Try.func8, Try.ntmps8
        go_wp2_with fail
        refine C.out.mono ?_; rintro e w1 ⟨rfl, hb⟩
        have hbH := Lib.hid hb
        clear hb
        go_wp2_with fail
        refine (docForm_64 _).mono ?_; rintro e w2 ⟨rfl, hw⟩
        have c1 : w2.cell? ⟨w1.heap.size, 1, none⟩ = some (.int .i64 E) := by rw [← hw]; simp
        have c2 : w2.cell? ⟨w1.heap.size, 2, none⟩ = some (.int .u64 F) := by rw [← hw]; simp
        have hb2 := Lib.hid (show Below W.heap.size W w2 by rw [← hw]; exact hbH.out.alloc hbH.out.size _)
        clear hw
        go_wp2_with fail
        go_quiet ((go_at_call 10; exact Calls.quiet_of_same (pow2_is 11 (by omega) (by omega) 2048 (by decide) _)))
        go_wp2_with fail
        refine (one_t _).mono ?_; rintro e w3 ⟨rfl, rfl⟩
        go_wp2_with fail
        go_ret2
        first | exact ⟨rfl, below_drewN hb2.out _⟩ | exact ⟨rfl, below_drewN (below_drewN hb2.out _) _⟩
      · have hcls : cls 2047 E F = 0 := by unfold cls; rw [if_neg hE, if_neg hE0, if_neg hF]
        rw [hcls]
        clear hcls hE
        have hd : decide (0 < F) = false := by simp; omega
        go_enter Try.func8, Try.ntmps8
        go_wp2_with fail
        refine C.out.mono ?_; rintro e w1 ⟨rfl, hb⟩
        have hbH := Lib.hid hb
        clear hb
        go_wp2_with fail
        refine (docForm_64 _).mono ?_; rintro e w2 ⟨rfl, hw⟩
        have c1 : w2.cell? ⟨w1.heap.size, 1, none⟩ = some (.int .i64 E) := by rw [← hw]; simp
        have c2 : w2.cell? ⟨w1.heap.size, 2, none⟩ = some (.int .u64 F) := by rw [← hw]; simp
        have hb2 := Lib.hid (show Below W.heap.size W w2 by rw [← hw]; exact hbH.out.alloc hbH.out.size _)
        clear hw
        go_wp2_with fail
        go_quiet ((go_at_call 10; exact Calls.quiet_of_same (pow2_is 11 (by omega) (by omega) 2048 (by decide) _)))
        go_wp2_with fail
        refine (one_f _).mono ?_; rintro e w3 ⟨rfl, rfl⟩
        go_wp2_with fail
        go_ret2
        first | exact ⟨rfl, below_drewN hb2.out _⟩ | exact ⟨rfl, below_drewN (below_drewN hb2.out _) _⟩
set_option maxRecDepth 100000 in
theorem docClass_no (b n : Int) (h32 : n ≠ 32) (h64 : n ≠ 64) (W : World) :
    Calls Try.prog 8 #[.int .u64 b, .int .i64 n] W fun e w' => e = .returned (.tuple #[.int .i64 0, .int .i64 1]) ∧ Below W.heap.size W w' := by
  have C := Lib.hid (docApart_no b n h32 h64 W)
  clear h32 h64
  go_enter Try.func8, Try.ntmps8
  go_wp2_with fail
  refine C.out.mono ?_; rintro e w1 ⟨rfl, hb⟩
  have hbH := Lib.hid hb
  clear hb
  go_wp2_with fail
  go_ret2
  exact ⟨rfl, hbH.out.alloc hbH.out.size _⟩
end Go.Proofs.Ytdlphcfmbhhfgaa.Real
