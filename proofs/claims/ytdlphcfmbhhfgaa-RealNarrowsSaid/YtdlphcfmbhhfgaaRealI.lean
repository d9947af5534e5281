/-
  PROVED HERE: contracts of the document's RealJoin. Conditions: as each theorem states.
-/
import Derived.Test.YtdlphcfmbhhfgaaRows
import Derived.Test.YtdlphcfmbhhfgaaRealA
namespace Go.Proofs.Ytdlphcfmbhhfgaa.Real
open Go.RowKit

/-- A quiet call behind a quiet region: the draws are joined. -/
theorem quiet_more {P : Program} {f : FuncId} {args : Array Value} {w : World} {a n : Nat} {v : Value}
    (h : Calls P f args (w.drewN (a + n)) fun e w' => e = .returned v ∧ w' = w.drewN (a + n)) :
    Calls P f args (w.drewN (a + n)) fun e w'' => e = .returned v ∧ ∃ m, w'' = w.drewN (a + m) :=
  h.mono fun _ _ ⟨he, hm⟩ => ⟨he, n, hm⟩
theorem pow2_q (n : Int) (h0 : 0 ≤ n) (h : n ≤ 63) (W : World) : Calls Try.prog 10 #[.int .i64 n] W fun e w' => e = .returned (.int .u64 ((p2 n.toNat : Nat) : Int)) ∧ w' = W :=
  pow2_is n h0 h _ rfl W
theorem one_q (N : Bool) (W : World) : Calls Try.prog 9 #[.bool N] W fun e w' => e = .returned (.int .i64 (if N then 1 else 0)) ∧ w' = W := by
  cases N
  · exact one_f W
  · exact one_t W
/-- The bits of parts: f bits of a fraction, e of an exponent. -/
def jn (e f : Nat) (N : Bool) (E F : Int) : Int := (if N then ((2 ^ (e + f) : Nat) : Int) else 0) + E * ((2 ^ f : Nat) : Int) + F
theorem or_u64 (a b : Int) (k : Nat) (ha : 0 ≤ a) (ha2 : a * ((2 ^ k : Nat) : Int) < 18446744073709551616) (hb : 0 ≤ b) (hb2 : b < ((2 ^ k : Nat) : Int)) (hk : 2 ^ k ≤ 18446744073709551616) : bits .or .u64 (a * ((2 ^ k : Nat) : Int)) b = a * ((2 ^ k : Nat) : Int) + b := by
  obtain ⟨a, rfl⟩ := Int.eq_ofNat_of_zero_le ha
  obtain ⟨b, rfl⟩ := Int.eq_ofNat_of_zero_le hb
  have hb3 : b < 2 ^ k := by omega
  have e : ((a : Int) * ((2 ^ k : Nat) : Int)) = ((a * 2 ^ k : Nat) : Int) := by rw [Int.natCast_mul]
  rw [e] at ha2 ⊢
  rw [u64_or_nat _ _ (by omega) (by omega), nat_join k _ _ (Nat.mul_mod_left _ _) hb3, Int.natCast_add]
theorem or_top (b : Int) (k : Nat) (hb : 0 ≤ b) (hb2 : b < ((2 ^ k : Nat) : Int)) (hk : k ≤ 63) : bits .or .u64 b ((2 ^ k : Nat) : Int) = b + ((2 ^ k : Nat) : Int) := by
  obtain ⟨b, rfl⟩ := Int.eq_ofNat_of_zero_le hb
  have hp : 2 ^ k ≤ 9223372036854775808 := Nat.pow_le_pow_right (n := 2) (by omega) hk
  have hb3 : b < 2 ^ k := by omega
  have h := u64_or_nat b (2 ^ k) (by omega) (by omega)
  rw [h, Nat.or_comm, nat_join k _ _ (by simp) hb3, Int.natCast_add, Int.add_comm]

set_option maxRecDepth 100000 in
set_option maxHeartbeats 1000000 in
theorem docJoin_32 (N : Bool) (E F : Int) (hE0 : 0 ≤ E) (hE : E < 256) (hF0 : 0 ≤ F) (hF : F < 8388608) (W : World) :
    Calls Try.prog 18 #[.agg #[.bool N, .int .i64 E, .int .u64 F], .int .i64 32] W fun e w' => e = .returned (.tuple #[.int .u64 (jn 8 23 N E F), .int .i64 0]) ∧ Below W.heap.size W w' := by
  have k1 : IntKind.u64.wrap E = E := by rw [IntKind.wrap_u64]; omega
  have k2 : IntKind.u64.wrap (E * 8388608) = E * 8388608 := by rw [IntKind.wrap_u64]; omega
  have k3 : IntKind.u64.wrap (E * 8388608 + F) = E * 8388608 + F := by rw [IntKind.wrap_u64]; omega
  have k4 : IntKind.u64.wrap (2147483648 + E * 8388608) = 2147483648 + E * 8388608 := by rw [IntKind.wrap_u64]; omega
  have k9 : IntKind.u64.wrap (2147483648 + E * 8388608 + F) = 2147483648 + E * 8388608 + F := by rw [IntKind.wrap_u64]; omega
  have k10 : IntKind.u64.wrap 1 = 1 := by decide
  have k11 : IntKind.u64.wrap 0 = 0 := by decide
  have t1 : p2 8 = 256 := by decide
  have t2 : p2 23 = 8388608 := by decide
  have t3 : p2 31 = 2147483648 := by decide
  have k5 : IntKind.i64.wrap 31 = 31 := by decide
  have k6 : IntKind.u64.wrap 2147483648 = 2147483648 := by decide
  have k7 : IntKind.u64.wrap 8388608 = 8388608 := by decide
  have k8 : IntKind.i64.wrap 256 = 256 := by decide
  have d1 : decide (E < 0) = false := by simp; omega
  have d2 : decide (256 ≤ E) = false := by simp; omega
  have d3 : decide (8388608 ≤ F) = false := by simp; omega
  cases N
  all_goals
    go_enter Try.func18, Try.ntmps18
    go_wp2_with fail
    refine (docForm_32 _).mono ?_; rintro e w2 ⟨rfl, hw⟩
    have c0 := (congrArg (fun w : World => w.cell? ⟨W.heap.size, 0, none⟩) hw).symm
    have c1 : w2.cell? ⟨W.heap.size, 1, none⟩ = some (.int .i64 E) := by rw [← hw]; simp
    have c2 : w2.cell? ⟨W.heap.size, 2, none⟩ = some (.int .u64 F) := by rw [← hw]; simp
    simp at c0
    have hb2 := Lib.hid (show Below W.heap.size W w2 by rw [← hw]; exact (Below.refl _ _).alloc (Nat.le_refl _) _)
    clear hw
    go_wp2_with fail
    go_quiet ((go_at_call 10; exact Calls.quiet_of_same (pow2_q _ (by omega) (by omega) _)))
    go_wp2_with fail
    go_quiet ((first | (go_at_call 9; exact quiet_more (one_q _ _)) | (go_at_call 10; exact quiet_more (pow2_q _ (by omega) (by omega) _))))
    go_wp2_with fail
    go_ret2
    first | exact ⟨by simp [jn]; try omega, below_drewN hb2.out _⟩ | exact ⟨by simp [jn]; try omega, below_drewN (below_drewN hb2.out _) _⟩

set_option maxRecDepth 100000 in
set_option maxHeartbeats 1000000 in
theorem docJoin_64 (N : Bool) (E F : Int) (hE0 : 0 ≤ E) (hE : E < 2048) (hF0 : 0 ≤ F) (hF : F < 4503599627370496) (W : World) :
    Calls Try.prog 18 #[.agg #[.bool N, .int .i64 E, .int .u64 F], .int .i64 64] W fun e w' => e = .returned (.tuple #[.int .u64 (jn 11 52 N E F), .int .i64 0]) ∧ Below W.heap.size W w' := by
  have k1 : IntKind.u64.wrap E = E := by rw [IntKind.wrap_u64]; omega
  have k2 : IntKind.u64.wrap (E * 4503599627370496) = E * 4503599627370496 := by rw [IntKind.wrap_u64]; omega
  have k3 : IntKind.u64.wrap (E * 4503599627370496 + F) = E * 4503599627370496 + F := by rw [IntKind.wrap_u64]; omega
  have k4 : IntKind.u64.wrap (9223372036854775808 + E * 4503599627370496) = 9223372036854775808 + E * 4503599627370496 := by rw [IntKind.wrap_u64]; omega
  have k9 : IntKind.u64.wrap (9223372036854775808 + E * 4503599627370496 + F) = 9223372036854775808 + E * 4503599627370496 + F := by rw [IntKind.wrap_u64]; omega
  have k10 : IntKind.u64.wrap 1 = 1 := by decide
  have k11 : IntKind.u64.wrap 0 = 0 := by decide
  have t1 : p2 11 = 2048 := by decide
  have t2 : p2 52 = 4503599627370496 := by decide
  have t3 : p2 63 = 9223372036854775808 := by decide
  have k5 : IntKind.i64.wrap 63 = 63 := by decide
  have k6 : IntKind.u64.wrap 9223372036854775808 = 9223372036854775808 := by decide
  have k7 : IntKind.u64.wrap 4503599627370496 = 4503599627370496 := by decide
  have k8 : IntKind.i64.wrap 2048 = 2048 := by decide
  have d1 : decide (E < 0) = false := by simp; omega
  have d2 : decide (2048 ≤ E) = false := by simp; omega
  have d3 : decide (4503599627370496 ≤ F) = false := by simp; omega
  cases N
  all_goals
    go_enter Try.func18, Try.ntmps18
    go_wp2_with fail
    refine (docForm_64 _).mono ?_; rintro e w2 ⟨rfl, hw⟩
    have c0 := (congrArg (fun w : World => w.cell? ⟨W.heap.size, 0, none⟩) hw).symm
    have c1 : w2.cell? ⟨W.heap.size, 1, none⟩ = some (.int .i64 E) := by rw [← hw]; simp
    have c2 : w2.cell? ⟨W.heap.size, 2, none⟩ = some (.int .u64 F) := by rw [← hw]; simp
    simp at c0
    have hb2 := Lib.hid (show Below W.heap.size W w2 by rw [← hw]; exact (Below.refl _ _).alloc (Nat.le_refl _) _)
    clear hw
    go_wp2_with fail
    go_quiet ((go_at_call 10; exact Calls.quiet_of_same (pow2_q _ (by omega) (by omega) _)))
    go_wp2_with fail
    go_quiet ((first | (go_at_call 9; exact quiet_more (one_q _ _)) | (go_at_call 10; exact quiet_more (pow2_q _ (by omega) (by omega) _))))
    go_wp2_with fail
    go_ret2
    first | exact ⟨by simp [jn]; try omega, below_drewN hb2.out _⟩ | exact ⟨by simp [jn]; try omega, below_drewN (below_drewN hb2.out _) _⟩

end Go.Proofs.Ytdlphcfmbhhfgaa.Real
