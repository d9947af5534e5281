/-
  PROVED HERE: contracts of real.Join and of the document's RealJoin. Conditions: as each theorem states.
-/
import Derived.Test.YtebjccenlfhilaaRows
import Derived.Test.YtebjccenlfhilaaRealA
namespace Go.Proofs.Ytebjccenlfhilaa.Real
open Go.RowKit

/-- A quiet call behind a quiet region: the draws are joined. -/
theorem quiet_more {P : Program} {f : FuncId} {args : Array Value} {w : World} {a n : Nat} {v : Value}
    (h : Calls P f args (w.drewN (a + n)) fun e w' => e = .returned v ∧ w' = w.drewN (a + n)) :
    Calls P f args (w.drewN (a + n)) fun e w'' => e = .returned v ∧ ∃ m, w'' = w.drewN (a + m) :=
  h.mono fun _ _ ⟨he, hm⟩ => ⟨he, n, hm⟩
theorem pow2_q (n : Int) (h0 : 0 ≤ n) (h : n ≤ 63) (W : World) : Calls Try.prog 35 #[.int .i64 n] W fun e w' => e = .returned (.int .u64 ((p2 n.toNat : Nat) : Int)) ∧ w' = W :=
  pow2_is n h0 h _ rfl W
theorem one_q (N : Bool) (W : World) : Calls Try.prog 38 #[.bool N] W fun e w' => e = .returned (.int .i64 (if N then 1 else 0)) ∧ w' = W := by
  cases N
  · exact one_f W
  · exact one_t W
/-- The bits of parts: f bits of a fraction, e of an exponent. -/
def jn (e f : Nat) (N : Bool) (E F : Int) : Int := (if N then ((2 ^ (e + f) : Nat) : Int) else 0) + E * ((2 ^ f : Nat) : Int) + F
theorem or_u64 (a b : Int) (k : Nat) (ha : 0 ≤ a) (ha2 : a * ((2 ^ k : Nat) : Int) < 18446744073709551616) (hb : 0 ≤ b) (hb2 : b < ((2 ^ k : Nat) : Int)) (hk : 2 ^ k ≤ 18446744073709551616) : bits .or .u64 (a * ((2 ^ k : Nat) : Int)) b = a * ((2 ^ k : Nat) : Int) + b := by
  obtain ⟨a, rfl⟩ := Int.eq_ofNat_of_zero_le ha
  obtain ⟨b, rfl⟩ := Int.eq_ofNat_of_zero_le hb
  have hb3 : b < 2 ^ k := by omega
  have e : ((a : Int) * ((2 ^ k : Nat) : Int)) = ((a * 2 ^ k : Nat) : Int) := by rw [Int.natCast_mul]
  rw [e] at ha2 ⊢
  rw [u64_or_nat _ _ (by omega) (by omega), nat_join k _ _ (Nat.mul_mod_left _ _) hb3, Int.natCast_add]
theorem or_top (b : Int) (k : Nat) (hb : 0 ≤ b) (hb2 : b < ((2 ^ k : Nat) : Int)) (hk : k ≤ 63) : bits .or .u64 b ((2 ^ k : Nat) : Int) = b + ((2 ^ k : Nat) : Int) := by
  obtain ⟨b, rfl⟩ := Int.eq_ofNat_of_zero_le hb
  have hp : 2 ^ k ≤ 9223372036854775808 := Nat.pow_le_pow_right (n := 2) (by omega) hk
  have hb3 : b < 2 ^ k := by omega
  have h := u64_or_nat b (2 ^ k) (by omega) (by omega)
  rw [h, Nat.or_comm, nat_join k _ _ (by simp) hb3, Int.natCast_add, Int.add_comm]

set_option maxRecDepth 100000 in
set_option maxHeartbeats 1000000 in
theorem join_32 (N : Bool) (E F : Int) (hE0 : 0 ≤ E) (hE : E < 256) (hF0 : 0 ≤ F) (hF : F < 8388608) (W : World) :
    Calls Try.prog 32 #[.agg #[.bool N, .int .i64 E, .int .u64 F], .int .i64 32] W fun e w' => e = .returned (.tuple #[.int .u64 (jn 8 23 N E F), .nilIface]) ∧ Below W.heap.size W w' := by
  have k1 : IntKind.u64.wrap E = E := by rw [IntKind.wrap_u64]; omega
  have k2 : IntKind.u64.wrap (E * 8388608) = E * 8388608 := by rw [IntKind.wrap_u64]; omega
  have k3 : bits .or .u64 (E * 8388608) F = E * 8388608 + F := or_u64 E F 23 hE0 (by omega) hF0 hF (by decide)
  have k4 : bits .or .u64 (E * 8388608 + F) 2147483648 = E * 8388608 + F + 2147483648 := or_top _ 31 (by omega) (by omega) (by omega)
  have k5 : IntKind.i64.wrap 31 = 31 := by decide
  have k6 : IntKind.u64.wrap 2147483648 = 2147483648 := by decide
  have k7 : IntKind.u64.wrap 8388608 = 8388608 := by decide
  have k8 : IntKind.i64.wrap 256 = 256 := by decide
  have d1 : decide (E < 0) = false := by simp; omega
  have d2 : decide (256 ≤ E) = false := by simp; omega
  have d3 : decide (8388608 ≤ F) = false := by simp; omega
  cases N
  all_goals
    go_enter Try.func32, Try.ntmps32
    go_wp2_with fail
    refine (form_32 _).mono ?_; rintro e w2 ⟨rfl, hb⟩
    have c0 := (hb.cell (p := ⟨W.heap.size, 0, none⟩) (by simp)).trans (World.cell?_alloc_new _ _ _ _)
    have c1 : w2.cell? ⟨W.heap.size, 1, none⟩ = some (.int .i64 E) := (hb.cell (p := ⟨W.heap.size, 1, none⟩) (by simp)).trans (by simp)
    have c2 : w2.cell? ⟨W.heap.size, 2, none⟩ = some (.int .u64 F) := (hb.cell (p := ⟨W.heap.size, 2, none⟩) (by simp)).trans (by simp)
    simp at c0
    have hb2 := Lib.hid ((((Below.refl _ _).alloc (Nat.le_refl _) _).trans (hb.mono (by simp)) : Below W.heap.size W w2))
    clear hb
    go_wp2_with fail
    go_quiet (fail)
    go_wp2_with fail
    go_quiet (fail)
    go_wp2_with fail
    go_ret2
    first | exact ⟨by simp [jn]; try omega, below_drewN hb2.out _⟩ | exact ⟨by simp [jn]; try omega, below_drewN (below_drewN hb2.out _) _⟩

set_option maxRecDepth 100000 in
set_option maxHeartbeats 1000000 in
theorem join_32_range (N : Bool) (E F : Int) (hEb : -9223372036854775808 ≤ E) (hEt : E ≤ 9223372036854775807) (hF0 : 0 ≤ F) (hFt : F ≤ 18446744073709551615) (h : E < 0 ∨ 256 ≤ E ∨ 8388608 ≤ F) (W : World) :
    Calls Try.prog 32 #[.agg #[.bool N, .int .i64 E, .int .u64 F], .int .i64 32] W fun e w' => e = .returned (.tuple #[.int .u64 0, .iface 55 (.int .i64 2)]) ∧ Below W.heap.size W w' := by
  have k5 : IntKind.i64.wrap 31 = 31 := by decide
  have k6 : IntKind.u64.wrap 2147483648 = 2147483648 := by decide
  have k7 : IntKind.u64.wrap 8388608 = 8388608 := by decide
  have k8 : IntKind.i64.wrap 256 = 256 := by decide
  by_cases h1 : E < 0
  · have d1 : decide (E < 0) = true := by simp; omega
    clear h
    go_enter Try.func32, Try.ntmps32
    go_wp2_with fail
    refine (form_32 _).mono ?_; rintro e w2 ⟨rfl, hb⟩
    have c0 := (hb.cell (p := ⟨W.heap.size, 0, none⟩) (by simp)).trans (World.cell?_alloc_new _ _ _ _)
    have c1 : w2.cell? ⟨W.heap.size, 1, none⟩ = some (.int .i64 E) := (hb.cell (p := ⟨W.heap.size, 1, none⟩) (by simp)).trans (by simp)
    have c2 : w2.cell? ⟨W.heap.size, 2, none⟩ = some (.int .u64 F) := (hb.cell (p := ⟨W.heap.size, 2, none⟩) (by simp)).trans (by simp)
    simp at c0
    have hb2 := Lib.hid ((((Below.refl _ _).alloc (Nat.le_refl _) _).trans (hb.mono (by simp)) : Below W.heap.size W w2))
    clear hb
    go_wp2_with fail
    go_quiet (fail)
    go_wp2_with fail
    go_ret2
    exact ⟨rfl, below_drewN hb2.out _⟩
  by_cases h2 : 256 ≤ E
  · have d1 : decide (E < 0) = false := by simp; omega
    have d2 : decide (256 ≤ E) = true := by simp; omega
    have k1 : IntKind.u64.wrap E = E := by rw [IntKind.wrap_u64]; omega
    clear h
    go_enter Try.func32, Try.ntmps32
    go_wp2_with fail
    refine (form_32 _).mono ?_; rintro e w2 ⟨rfl, hb⟩
    have c0 := (hb.cell (p := ⟨W.heap.size, 0, none⟩) (by simp)).trans (World.cell?_alloc_new _ _ _ _)
    have c1 : w2.cell? ⟨W.heap.size, 1, none⟩ = some (.int .i64 E) := (hb.cell (p := ⟨W.heap.size, 1, none⟩) (by simp)).trans (by simp)
    have c2 : w2.cell? ⟨W.heap.size, 2, none⟩ = some (.int .u64 F) := (hb.cell (p := ⟨W.heap.size, 2, none⟩) (by simp)).trans (by simp)
    simp at c0
    have hb2 := Lib.hid ((((Below.refl _ _).alloc (Nat.le_refl _) _).trans (hb.mono (by simp)) : Below W.heap.size W w2))
    clear hb
    go_wp2_with fail
    go_quiet (fail)
    go_wp2_with fail
    go_ret2
    exact ⟨rfl, below_drewN hb2.out _⟩
  · have d1 : decide (E < 0) = false := by simp; omega
    have d2 : decide (256 ≤ E) = false := by simp; omega
    have d3 : decide (8388608 ≤ F) = true := by simp; omega
    have k1 : IntKind.u64.wrap E = E := by rw [IntKind.wrap_u64]; omega
    clear h
    go_enter Try.func32, Try.ntmps32
    go_wp2_with fail
    refine (form_32 _).mono ?_; rintro e w2 ⟨rfl, hb⟩
    have c0 := (hb.cell (p := ⟨W.heap.size, 0, none⟩) (by simp)).trans (World.cell?_alloc_new _ _ _ _)
    have c1 : w2.cell? ⟨W.heap.size, 1, none⟩ = some (.int .i64 E) := (hb.cell (p := ⟨W.heap.size, 1, none⟩) (by simp)).trans (by simp)
    have c2 : w2.cell? ⟨W.heap.size, 2, none⟩ = some (.int .u64 F) := (hb.cell (p := ⟨W.heap.size, 2, none⟩) (by simp)).trans (by simp)
    simp at c0
    have hb2 := Lib.hid ((((Below.refl _ _).alloc (Nat.le_refl _) _).trans (hb.mono (by simp)) : Below W.heap.size W w2))
    clear hb
    go_wp2_with fail
    go_quiet (fail)
    go_wp2_with fail
    go_ret2
    exact ⟨rfl, below_drewN hb2.out _⟩

set_option maxRecDepth 100000 in
set_option maxHeartbeats 1000000 in
theorem docJoin_32 (N : Bool) (E F : Int) (hE0 : 0 ≤ E) (hE : E < 256) (hF0 : 0 ≤ F) (hF : F < 8388608) (W : World) :
    Calls Try.prog 37 #[.agg #[.bool N, .int .i64 E, .int .u64 F], .int .i64 32] W fun e w' => e = .returned (.tuple #[.int .u64 (jn 8 23 N E F), .int .i64 0]) ∧ Below W.heap.size W w' := by
  have k1 : IntKind.u64.wrap E = E := by rw [IntKind.wrap_u64]; omega
  have k2 : IntKind.u64.wrap (E * 8388608) = E * 8388608 := by rw [IntKind.wrap_u64]; omega
  have k3 : IntKind.u64.wrap (E * 8388608 + F) = E * 8388608 + F := by rw [IntKind.wrap_u64]; omega
  have k4 : IntKind.u64.wrap (2147483648 + E * 8388608) = 2147483648 + E * 8388608 := by rw [IntKind.wrap_u64]; omega
  have k9 : IntKind.u64.wrap (2147483648 + E * 8388608 + F) = 2147483648 + E * 8388608 + F := by rw [IntKind.wrap_u64]; omega
  have k10 : IntKind.u64.wrap 1 = 1 := by decide
  have k11 : IntKind.u64.wrap 0 = 0 := by decide
  have t1 : p2 8 = 256 := by decide
  have t2 : p2 23 = 8388608 := by decide
  have t3 : p2 31 = 2147483648 := by decide
  have k5 : IntKind.i64.wrap 31 = 31 := by decide
  have k6 : IntKind.u64.wrap 2147483648 = 2147483648 := by decide
  have k7 : IntKind.u64.wrap 8388608 = 8388608 := by decide
  have k8 : IntKind.i64.wrap 256 = 256 := by decide
  have d1 : decide (E < 0) = false := by simp; omega
  have d2 : decide (256 ≤ E) = false := by simp; omega
  have d3 : decide (8388608 ≤ F) = false := by simp; omega
  cases N
  all_goals
    go_enter Try.func37, Try.ntmps37
    go_wp2_with fail
    refine (docForm_32 _).mono ?_; rintro e w2 ⟨rfl, hw⟩
    have c0 := (congrArg (fun w : World => w.cell? ⟨W.heap.size, 0, none⟩) hw).symm
    have c1 : w2.cell? ⟨W.heap.size, 1, none⟩ = some (.int .i64 E) := by rw [← hw]; simp
    have c2 : w2.cell? ⟨W.heap.size, 2, none⟩ = some (.int .u64 F) := by rw [← hw]; simp
    simp at c0
    have hb2 := Lib.hid (show Below W.heap.size W w2 by rw [← hw]; exact (Below.refl _ _).alloc (Nat.le_refl _) _)
    clear hw
    go_wp2_with fail
    go_quiet ((go_at_call 35; exact Calls.quiet_of_same (pow2_q _ (by omega) (by omega) _)))
    go_wp2_with fail
    go_quiet ((first | (go_at_call 38; exact quiet_more (one_q _ _)) | (go_at_call 35; exact quiet_more (pow2_q _ (by omega) (by omega) _))))
    go_wp2_with fail
    go_ret2
    first | exact ⟨by simp [jn]; try omega, below_drewN hb2.out _⟩ | exact ⟨by simp [jn]; try omega, below_drewN (below_drewN hb2.out _) _⟩

set_option maxRecDepth 100000 in
set_option maxHeartbeats 1000000 in
theorem docJoin_32_range (N : Bool) (E F : Int) (hEb : -9223372036854775808 ≤ E) (hEt : E ≤ 9223372036854775807) (hF0 : 0 ≤ F) (hFt : F ≤ 18446744073709551615) (h : E < 0 ∨ 256 ≤ E ∨ 8388608 ≤ F) (W : World) :
    Calls Try.prog 37 #[.agg #[.bool N, .int .i64 E, .int .u64 F], .int .i64 32] W fun e w' => e = .returned (.tuple #[.int .u64 0, .int .i64 2]) ∧ Below W.heap.size W w' := by
  have t1 : p2 8 = 256 := by decide
  have t2 : p2 23 = 8388608 := by decide
  have t3 : p2 31 = 2147483648 := by decide
  have k5 : IntKind.i64.wrap 31 = 31 := by decide
  have k6 : IntKind.u64.wrap 2147483648 = 2147483648 := by decide
  have k7 : IntKind.u64.wrap 8388608 = 8388608 := by decide
  have k8 : IntKind.i64.wrap 256 = 256 := by decide
  by_cases h1 : E < 0
  · have d1 : decide (E < 0) = true := by simp; omega
    clear h
    go_enter Try.func37, Try.ntmps37
    go_wp2_with fail
    refine (docForm_32 _).mono ?_; rintro e w2 ⟨rfl, hw⟩
    have c0 := (congrArg (fun w : World => w.cell? ⟨W.heap.size, 0, none⟩) hw).symm
    have c1 : w2.cell? ⟨W.heap.size, 1, none⟩ = some (.int .i64 E) := by rw [← hw]; simp
    have c2 : w2.cell? ⟨W.heap.size, 2, none⟩ = some (.int .u64 F) := by rw [← hw]; simp
    simp at c0
    have hb2 := Lib.hid (show Below W.heap.size W w2 by rw [← hw]; exact (Below.refl _ _).alloc (Nat.le_refl _) _)
    clear hw
    go_wp2_with fail
    go_quiet ((go_at_call 35; exact Calls.quiet_of_same (pow2_q _ (by omega) (by omega) _)))
    go_wp2_with fail
    go_ret2
    exact ⟨rfl, below_drewN hb2.out _⟩
  by_cases h2 : 256 ≤ E
  · have d1 : decide (E < 0) = false := by simp; omega
    have d2 : decide (256 ≤ E) = true := by simp; omega
    have k1 : IntKind.u64.wrap E = E := by rw [IntKind.wrap_u64]; omega
    clear h
    go_enter Try.func37, Try.ntmps37
    go_wp2_with fail
    refine (docForm_32 _).mono ?_; rintro e w2 ⟨rfl, hw⟩
    have c0 := (congrArg (fun w : World => w.cell? ⟨W.heap.size, 0, none⟩) hw).symm
    have c1 : w2.cell? ⟨W.heap.size, 1, none⟩ = some (.int .i64 E) := by rw [← hw]; simp
    have c2 : w2.cell? ⟨W.heap.size, 2, none⟩ = some (.int .u64 F) := by rw [← hw]; simp
    simp at c0
    have hb2 := Lib.hid (show Below W.heap.size W w2 by rw [← hw]; exact (Below.refl _ _).alloc (Nat.le_refl _) _)
    clear hw
    go_wp2_with fail
    go_quiet ((go_at_call 35; exact Calls.quiet_of_same (pow2_q _ (by omega) (by omega) _)))
    go_wp2_with fail
    go_ret2
    exact ⟨rfl, below_drewN hb2.out _⟩
  · have d1 : decide (E < 0) = false := by simp; omega
    have d2 : decide (256 ≤ E) = false := by simp; omega
    have d3 : decide (8388608 ≤ F) = true := by simp; omega
    have k1 : IntKind.u64.wrap E = E := by rw [IntKind.wrap_u64]; omega
    clear h
    go_enter Try.func37, Try.ntmps37
    go_wp2_with fail
    refine (docForm_32 _).mono ?_; rintro e w2 ⟨rfl, hw⟩
    have c0 := (congrArg (fun w : World => w.cell? ⟨W.heap.size, 0, none⟩) hw).symm
    have c1 : w2.cell? ⟨W.heap.size, 1, none⟩ = some (.int .i64 E) := by rw [← hw]; simp
    have c2 : w2.cell? ⟨W.heap.size, 2, none⟩ = some (.int .u64 F) := by rw [← hw]; simp
    simp at c0
    have hb2 := Lib.hid (show Below W.heap.size W w2 by rw [← hw]; exact (Below.refl _ _).alloc (Nat.le_refl _) _)
    clear hw
    go_wp2_with fail
    go_quiet ((go_at_call 35; exact Calls.quiet_of_same (pow2_q _ (by omega) (by omega) _)))
    go_wp2_with fail
    go_ret2
    exact ⟨rfl, below_drewN hb2.out _⟩

set_option maxRecDepth 100000 in
set_option maxHeartbeats 1000000 in
theorem join_64 (N : Bool) (E F : Int) (hE0 : 0 ≤ E) (hE : E < 2048) (hF0 : 0 ≤ F) (hF : F < 4503599627370496) (W : World) :
    Calls Try.prog 32 #[.agg #[.bool N, .int .i64 E, .int .u64 F], .int .i64 64] W fun e w' => e = .returned (.tuple #[.int .u64 (jn 11 52 N E F), .nilIface]) ∧ Below W.heap.size W w' := by
  have k1 : IntKind.u64.wrap E = E := by rw [IntKind.wrap_u64]; omega
  have k2 : IntKind.u64.wrap (E * 4503599627370496) = E * 4503599627370496 := by rw [IntKind.wrap_u64]; omega
  have k3 : bits .or .u64 (E * 4503599627370496) F = E * 4503599627370496 + F := or_u64 E F 52 hE0 (by omega) hF0 hF (by decide)
  have k4 : bits .or .u64 (E * 4503599627370496 + F) 9223372036854775808 = E * 4503599627370496 + F + 9223372036854775808 := or_top _ 63 (by omega) (by omega) (by omega)
  have k5 : IntKind.i64.wrap 63 = 63 := by decide
  have k6 : IntKind.u64.wrap 9223372036854775808 = 9223372036854775808 := by decide
  have k7 : IntKind.u64.wrap 4503599627370496 = 4503599627370496 := by decide
  have k8 : IntKind.i64.wrap 2048 = 2048 := by decide
  have d1 : decide (E < 0) = false := by simp; omega
  have d2 : decide (2048 ≤ E) = false := by simp; omega
  have d3 : decide (4503599627370496 ≤ F) = false := by simp; omega
  cases N
  all_goals
    go_enter Try.func32, Try.ntmps32
    go_wp2_with fail
    refine (form_64 _).mono ?_; rintro e w2 ⟨rfl, hb⟩
    have c0 := (hb.cell (p := ⟨W.heap.size, 0, none⟩) (by simp)).trans (World.cell?_alloc_new _ _ _ _)
    have c1 : w2.cell? ⟨W.heap.size, 1, none⟩ = some (.int .i64 E) := (hb.cell (p := ⟨W.heap.size, 1, none⟩) (by simp)).trans (by simp)
    have c2 : w2.cell? ⟨W.heap.size, 2, none⟩ = some (.int .u64 F) := (hb.cell (p := ⟨W.heap.size, 2, none⟩) (by simp)).trans (by simp)
    simp at c0
    have hb2 := Lib.hid ((((Below.refl _ _).alloc (Nat.le_refl _) _).trans (hb.mono (by simp)) : Below W.heap.size W w2))
    clear hb
    go_wp2_with fail
    go_quiet (fail)
    go_wp2_with fail
    go_quiet (fail)
    go_wp2_with fail
    go_ret2
    first | exact ⟨by simp [jn]; try omega, below_drewN hb2.out _⟩ | exact ⟨by simp [jn]; try omega, below_drewN (below_drewN hb2.out _) _⟩

set_option maxRecDepth 100000 in
set_option maxHeartbeats 1000000 in
theorem join_64_range (N : Bool) (E F : Int) (hEb : -9223372036854775808 ≤ E) (hEt : E ≤ 9223372036854775807) (hF0 : 0 ≤ F) (hFt : F ≤ 18446744073709551615) (h : E < 0 ∨ 2048 ≤ E ∨ 4503599627370496 ≤ F) (W : World) :
    Calls Try.prog 32 #[.agg #[.bool N, .int .i64 E, .int .u64 F], .int .i64 64] W fun e w' => e = .returned (.tuple #[.int .u64 0, .iface 55 (.int .i64 2)]) ∧ Below W.heap.size W w' := by
  have k5 : IntKind.i64.wrap 63 = 63 := by decide
  have k6 : IntKind.u64.wrap 9223372036854775808 = 9223372036854775808 := by decide
  have k7 : IntKind.u64.wrap 4503599627370496 = 4503599627370496 := by decide
  have k8 : IntKind.i64.wrap 2048 = 2048 := by decide
  by_cases h1 : E < 0
  · have d1 : decide (E < 0) = true := by simp; omega
    clear h
    go_enter Try.func32, Try.ntmps32
    go_wp2_with fail
    refine (form_64 _).mono ?_; rintro e w2 ⟨rfl, hb⟩
    have c0 := (hb.cell (p := ⟨W.heap.size, 0, none⟩) (by simp)).trans (World.cell?_alloc_new _ _ _ _)
    have c1 : w2.cell? ⟨W.heap.size, 1, none⟩ = some (.int .i64 E) := (hb.cell (p := ⟨W.heap.size, 1, none⟩) (by simp)).trans (by simp)
    have c2 : w2.cell? ⟨W.heap.size, 2, none⟩ = some (.int .u64 F) := (hb.cell (p := ⟨W.heap.size, 2, none⟩) (by simp)).trans (by simp)
    simp at c0
    have hb2 := Lib.hid ((((Below.refl _ _).alloc (Nat.le_refl _) _).trans (hb.mono (by simp)) : Below W.heap.size W w2))
    clear hb
    go_wp2_with fail
    go_quiet (fail)
    go_wp2_with fail
    go_ret2
    exact ⟨rfl, below_drewN hb2.out _⟩
  by_cases h2 : 2048 ≤ E
  · have d1 : decide (E < 0) = false := by simp; omega
    have d2 : decide (2048 ≤ E) = true := by simp; omega
    have k1 : IntKind.u64.wrap E = E := by rw [IntKind.wrap_u64]; omega
    clear h
    go_enter Try.func32, Try.ntmps32
    go_wp2_with fail
    refine (form_64 _).mono ?_; rintro e w2 ⟨rfl, hb⟩
    have c0 := (hb.cell (p := ⟨W.heap.size, 0, none⟩) (by simp)).trans (World.cell?_alloc_new _ _ _ _)
    have c1 : w2.cell? ⟨W.heap.size, 1, none⟩ = some (.int .i64 E) := (hb.cell (p := ⟨W.heap.size, 1, none⟩) (by simp)).trans (by simp)
    have c2 : w2.cell? ⟨W.heap.size, 2, none⟩ = some (.int .u64 F) := (hb.cell (p := ⟨W.heap.size, 2, none⟩) (by simp)).trans (by simp)
    simp at c0
    have hb2 := Lib.hid ((((Below.refl _ _).alloc (Nat.le_refl _) _).trans (hb.mono (by simp)) : Below W.heap.size W w2))
    clear hb
    go_wp2_with fail
    go_quiet (fail)
    go_wp2_with fail
    go_ret2
    exact ⟨rfl, below_drewN hb2.out _⟩
  · have d1 : decide (E < 0) = false := by simp; omega
    have d2 : decide (2048 ≤ E) = false := by simp; omega
    have d3 : decide (4503599627370496 ≤ F) = true := by simp; omega
    have k1 : IntKind.u64.wrap E = E := by rw [IntKind.wrap_u64]; omega
    clear h
    go_enter Try.func32, Try.ntmps32
    go_wp2_with fail
    refine (form_64 _).mono ?_; rintro e w2 ⟨rfl, hb⟩
    have c0 := (hb.cell (p := ⟨W.heap.size, 0, none⟩) (by simp)).trans (World.cell?_alloc_new _ _ _ _)
    have c1 : w2.cell? ⟨W.heap.size, 1, none⟩ = some (.int .i64 E) := (hb.cell (p := ⟨W.heap.size, 1, none⟩) (by simp)).trans (by simp)
    have c2 : w2.cell? ⟨W.heap.size, 2, none⟩ = some (.int .u64 F) := (hb.cell (p := ⟨W.heap.size, 2, none⟩) (by simp)).trans (by simp)
    simp at c0
    have hb2 := Lib.hid ((((Below.refl _ _).alloc (Nat.le_refl _) _).trans (hb.mono (by simp)) : Below W.heap.size W w2))
    clear hb
    go_wp2_with fail
    go_quiet (fail)
    go_wp2_with fail
    go_ret2
    exact ⟨rfl, below_drewN hb2.out _⟩

set_option maxRecDepth 100000 in
set_option maxHeartbeats 1000000 in
theorem docJoin_64 (N : Bool) (E F : Int) (hE0 : 0 ≤ E) (hE : E < 2048) (hF0 : 0 ≤ F) (hF : F < 4503599627370496) (W : World) :
    Calls Try.prog 37 #[.agg #[.bool N, .int .i64 E, .int .u64 F], .int .i64 64] W fun e w' => e = .returned (.tuple #[.int .u64 (jn 11 52 N E F), .int .i64 0]) ∧ Below W.heap.size W w' := by
  have k1 : IntKind.u64.wrap E = E := by rw [IntKind.wrap_u64]; omega
  have k2 : IntKind.u64.wrap (E * 4503599627370496) = E * 4503599627370496 := by rw [IntKind.wrap_u64]; omega
  have k3 : IntKind.u64.wrap (E * 4503599627370496 + F) = E * 4503599627370496 + F := by rw [IntKind.wrap_u64]; omega
  have k4 : IntKind.u64.wrap (9223372036854775808 + E * 4503599627370496) = 9223372036854775808 + E * 4503599627370496 := by rw [IntKind.wrap_u64]; omega
  have k9 : IntKind.u64.wrap (9223372036854775808 + E * 4503599627370496 + F) = 9223372036854775808 + E * 4503599627370496 + F := by rw [IntKind.wrap_u64]; omega
  have k10 : IntKind.u64.wrap 1 = 1 := by decide
  have k11 : IntKind.u64.wrap 0 = 0 := by decide
  have t1 : p2 11 = 2048 := by decide
  have t2 : p2 52 = 4503599627370496 := by decide
  have t3 : p2 63 = 9223372036854775808 := by decide
  have k5 : IntKind.i64.wrap 63 = 63 := by decide
  have k6 : IntKind.u64.wrap 9223372036854775808 = 9223372036854775808 := by decide
  have k7 : IntKind.u64.wrap 4503599627370496 = 4503599627370496 := by decide
  have k8 : IntKind.i64.wrap 2048 = 2048 := by decide
  have d1 : decide (E < 0) = false := by simp; omega
  have d2 : decide (2048 ≤ E) = false := by simp; omega
  have d3 : decide (4503599627370496 ≤ F) = false := by simp; omega
  cases N
  all_goals
    go_enter Try.func37, Try.ntmps37
    go_wp2_with fail
    refine (docForm_64 _).mono ?_; rintro e w2 ⟨rfl, hw⟩
    have c0 := (congrArg (fun w : World => w.cell? ⟨W.heap.size, 0, none⟩) hw).symm
    have c1 : w2.cell? ⟨W.heap.size, 1, none⟩ = some (.int .i64 E) := by rw [← hw]; simp
    have c2 : w2.cell? ⟨W.heap.size, 2, none⟩ = some (.int .u64 F) := by rw [← hw]; simp
    simp at c0
    have hb2 := Lib.hid (show Below W.heap.size W w2 by rw [← hw]; exact (Below.refl _ _).alloc (Nat.le_refl _) _)
    clear hw
    go_wp2_with fail
    go_quiet ((go_at_call 35; exact Calls.quiet_of_same (pow2_q _ (by omega) (by omega) _)))
    go_wp2_with fail
    go_quiet ((first | (go_at_call 38; exact quiet_more (one_q _ _)) | (go_at_call 35; exact quiet_more (pow2_q _ (by omega) (by omega) _))))
    go_wp2_with fail
    go_ret2
    first | exact ⟨by simp [jn]; try omega, below_drewN hb2.out _⟩ | exact ⟨by simp [jn]; try omega, below_drewN (below_drewN hb2.out _) _⟩

set_option maxRecDepth 100000 in
set_option maxHeartbeats 1000000 in
theorem docJoin_64_range (N : Bool) (E F : Int) (hEb : -9223372036854775808 ≤ E) (hEt : E ≤ 9223372036854775807) (hF0 : 0 ≤ F) (hFt : F ≤ 18446744073709551615) (h : E < 0 ∨ 2048 ≤ E ∨ 4503599627370496 ≤ F) (W : World) :
    Calls Try.prog 37 #[.agg #[.bool N, .int .i64 E, .int .u64 F], .int .i64 64] W fun e w' => e = .returned (.tuple #[.int .u64 0, .int .i64 2]) ∧ Below W.heap.size W w' := by
  have t1 : p2 11 = 2048 := by decide
  have t2 : p2 52 = 4503599627370496 := by decide
  have t3 : p2 63 = 9223372036854775808 := by decide
  have k5 : IntKind.i64.wrap 63 = 63 := by decide
  have k6 : IntKind.u64.wrap 9223372036854775808 = 9223372036854775808 := by decide
  have k7 : IntKind.u64.wrap 4503599627370496 = 4503599627370496 := by decide
  have k8 : IntKind.i64.wrap 2048 = 2048 := by decide
  by_cases h1 : E < 0
  · have d1 : decide (E < 0) = true := by simp; omega
    clear h
    go_enter Try.func37, Try.ntmps37
    go_wp2_with fail
    refine (docForm_64 _).mono ?_; rintro e w2 ⟨rfl, hw⟩
    have c0 := (congrArg (fun w : World => w.cell? ⟨W.heap.size, 0, none⟩) hw).symm
    have c1 : w2.cell? ⟨W.heap.size, 1, none⟩ = some (.int .i64 E) := by rw [← hw]; simp
    have c2 : w2.cell? ⟨W.heap.size, 2, none⟩ = some (.int .u64 F) := by rw [← hw]; simp
    simp at c0
    have hb2 := Lib.hid (show Below W.heap.size W w2 by rw [← hw]; exact (Below.refl _ _).alloc (Nat.le_refl _) _)
    clear hw
    go_wp2_with fail
    go_quiet ((go_at_call 35; exact Calls.quiet_of_same (pow2_q _ (by omega) (by omega) _)))
    go_wp2_with fail
    go_ret2
    exact ⟨rfl, below_drewN hb2.out _⟩
  by_cases h2 : 2048 ≤ E
  · have d1 : decide (E < 0) = false := by simp; omega
    have d2 : decide (2048 ≤ E) = true := by simp; omega
    have k1 : IntKind.u64.wrap E = E := by rw [IntKind.wrap_u64]; omega
    clear h
    go_enter Try.func37, Try.ntmps37
    go_wp2_with fail
    refine (docForm_64 _).mono ?_; rintro e w2 ⟨rfl, hw⟩
    have c0 := (congrArg (fun w : World => w.cell? ⟨W.heap.size, 0, none⟩) hw).symm
    have c1 : w2.cell? ⟨W.heap.size, 1, none⟩ = some (.int .i64 E) := by rw [← hw]; simp
    have c2 : w2.cell? ⟨W.heap.size, 2, none⟩ = some (.int .u64 F) := by rw [← hw]; simp
    simp at c0
    have hb2 := Lib.hid (show Below W.heap.size W w2 by rw [← hw]; exact (Below.refl _ _).alloc (Nat.le_refl _) _)
    clear hw
    go_wp2_with fail
    go_quiet ((go_at_call 35; exact Calls.quiet_of_same (pow2_q _ (by omega) (by omega) _)))
    go_wp2_with fail
    go_ret2
    exact ⟨rfl, below_drewN hb2.out _⟩
  · have d1 : decide (E < 0) = false := by simp; omega
    have d2 : decide (2048 ≤ E) = false := by simp; omega
    have d3 : decide (4503599627370496 ≤ F) = true := by simp; omega
    have k1 : IntKind.u64.wrap E = E := by rw [IntKind.wrap_u64]; omega
    clear h
    go_enter Try.func37, Try.ntmps37
    go_wp2_with fail
    refine (docForm_64 _).mono ?_; rintro e w2 ⟨rfl, hw⟩
    have c0 := (congrArg (fun w : World => w.cell? ⟨W.heap.size, 0, none⟩) hw).symm
    have c1 : w2.cell? ⟨W.heap.size, 1, none⟩ = some (.int .i64 E) := by rw [← hw]; simp
    have c2 : w2.cell? ⟨W.heap.size, 2, none⟩ = some (.int .u64 F) := by rw [← hw]; simp
    simp at c0
    have hb2 := Lib.hid (show Below W.heap.size W w2 by rw [← hw]; exact (Below.refl _ _).alloc (Nat.le_refl _) _)
    clear hw
    go_wp2_with fail
    go_quiet ((go_at_call 35; exact Calls.quiet_of_same (pow2_q _ (by omega) (by omega) _)))
    go_wp2_with fail
    go_ret2
    exact ⟨rfl, below_drewN hb2.out _⟩

set_option maxRecDepth 100000 in
theorem join_no (N : Bool) (E F n : Int) (h32 : n ≠ 32) (h64 : n ≠ 64) (W : World) :
    Calls Try.prog 32 #[.agg #[.bool N, .int .i64 E, .int .u64 F], .int .i64 n] W fun e w' => e = .returned (.tuple #[.int .u64 0, .iface 55 (.int .i64 1)]) ∧ Below W.heap.size W w' := by
  have H := Lib.hid (And.intro h32 h64)
  clear h32 h64
  go_enter Try.func32, Try.ntmps32
  go_wp2_with fail
  refine (form_no n H.out.1 H.out.2 _).mono ?_; rintro e w2 ⟨rfl, hb⟩
  have hb2 := Lib.hid ((((Below.refl _ _).alloc (Nat.le_refl _) _).trans (hb.mono (by simp)) : Below W.heap.size W w2))
  clear hb
  go_wp2_with fail
  go_ret2
  exact ⟨rfl, hb2.out⟩

set_option maxRecDepth 100000 in
theorem docJoin_no (N : Bool) (E F n : Int) (h32 : n ≠ 32) (h64 : n ≠ 64) (W : World) :
    Calls Try.prog 37 #[.agg #[.bool N, .int .i64 E, .int .u64 F], .int .i64 n] W fun e w' => e = .returned (.tuple #[.int .u64 0, .int .i64 1]) ∧ Below W.heap.size W w' := by
  have H := Lib.hid (And.intro h32 h64)
  clear h32 h64
  go_enter Try.func37, Try.ntmps37
  go_wp2_with fail
  refine (docForm_no n H.out.1 H.out.2 _).mono ?_; rintro e w2 ⟨rfl, hw⟩
  have hb2 := Lib.hid (show Below W.heap.size W w2 by rw [← hw]; exact (Below.refl _ _).alloc (Nat.le_refl _) _)
  clear hw
  go_wp2_with fail
  go_ret2
  exact ⟨rfl, hb2.out⟩
end Go.Proofs.Ytebjccenlfhilaa.Real
