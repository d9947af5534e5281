/-
  PROVED HERE: the contract of the document's realUnits, whatever the bits. Conditions: as each theorem states.
-/
import Derived.Test.YtdlphcfmbhhfgaaRnH
namespace Go.Proofs.Ytdlphcfmbhhfgaa.Rn
open Go.RowKit Real
attribute [local go_sem ↓] Go.wp_at_zero Go.wp_at_succ
theorem zero_set (X : World) (g m : Nat) (h0 : X.rangeAt g 0 (fn fun _ => 0)) (hm : m < 2 ^ 53) : (X.setCell ⟨g, 0, none⟩ (.int .u64 (m : Int))).rangeAt g 0 (arr m) := by
  have h := one_set X g m 0 h0 hm rfl
  have hB : B64 = 18446744073709551616 := rfl
  have hl : m < B64 := by rw [hB]; omega
  rw [u64_shl, Nat.zero_mod, Nat.zero_div, Nat.pow_zero, Nat.mul_one, Nat.mod_eq_of_lt hl] at h
  exact h
set_option maxRecDepth 100000 in
set_option maxHeartbeats 4000000 in
theorem realUnits_low (b m : Nat) (hb : b < 9223372036854775808) (he : exp64 (b : Int) = 0) (hm : frac64 (b : Int) = (m : Int)) (hm2 : m < 2 ^ 53) (W : World) :
    Calls Try.prog 12 #[.int .u64 (b : Int)] W fun x w' => x = .returned (.agg (arr (m)).toArray) ∧ Below W.heap.size W w' := by
  have C := Lib.hid (fun W => docApart_64 (b : Int) (by omega) (by omega) W)
  rw [he] at C
  rw [hm] at C
  generalize neg64 (b : Int) = N at *
  clear he hm
  have T00 := (new_range W zeros 42).2
  go_enter Try.func12, Try.ntmps12
  go_wp2_with (refine wpList_alloc_units rfl rfl W.heap.size rfl ?_; intro w0 r0 t0 b0 z0)
  have HT0 := Lib.hid t0
  have HB0 := Lib.hid b0
  clear r0 t0 b0 T00
  refine (C.out _).mono ?_; rintro x w1 ⟨rfl, h1⟩
  have HT1 := Lib.hid (there_below HT0.out h1)
  have HB1 := Lib.hid (HB0.out.trans (h1.mono (by omega)))
  have z1 : W.heap.size + 1 ≤ w1.heap.size := by have := h1.size; omega
  clear h1 z0
  go_wp2_with fail
  go_quiet (fail)
  have HI : Hid ((Try.prog.info? 42).map (·.size) = some (arr (m)).length) := Lib.hid (by rw [arr_len]; exact infoU)
  have HI2 : Hid ((Try.prog.info? 42).map (·.size) = some (arr (m)).toArray.size) := Lib.hid (by rw [arr_size]; exact infoU)
  have HM2 := Lib.hid hm2
  have hmw : IntKind.u64.wrap (m : Int) = (m : Int) := by
    have e9 : ∀ x : Int, IntKind.u64.wrap x = x % 18446744073709551616 := fun x => by simp [IntKind.wrap, IntKind.bits, IntKind.signed]
    rw [e9]; omega
  clear hm2
  go_wp2_with (first
    | (refine wpList_alloc_units rfl rfl (w1.heap.size + 1) (by simp) ?_; intro w2 r2 t2 b2 z2; have c1 := r2 0 _ (fn_get _ 0 (by decide)); have f1 := (t2 0 (by decide)).2; rw [Nat.zero_add] at c1 f1; have HR2 := Lib.hid r2; have HB2 := Lib.hid (alloc_below b2 z1 (by first | exact HB1.out.alloc (by omega) _ | exact below_drewN (HB1.out.alloc (by omega) _) _ | exact (below_drewN HB1.out _).alloc (by simp; omega) _)); have HT2 := Lib.hid (alloc_there b2 (by simp) (by first | exact World.there_alloc HT1.out _ | exact there_drewN (World.there_alloc HT1.out _) _)); clear r2 t2 b2)
    | (refine wpList_load_stage rfl 42 _ rfl ?_; refine ⟨w1.heap.size + 1, 0, arr (m), _, rfl, zero_set _ _ m HR2.out HM2.out, Try.underlying42, rfl, HI.out, ?_⟩)
    | (refine wpList_store_stage rfl 42 _ _ rfl ?_; refine ⟨W.heap.size, 0, (arr (m)).toArray, rfl, rfl, (by rw [arr_size]; first | exact there_set HT2.out _ _ | exact there_set (there_set HT2.out _ _) _ _), HI2.out, arr_one _, ?_⟩))
  have hl := fun w (hh : World.there w W.heap.size 0 34) => run_loadVar_mid (P := Try.prog) _ _ _ 42 (arr (m)) _ (World.rangeAt_setCells_same w W.heap.size 0 (arr (m)) (by rw [arr_len]; exact hh)) Try.underlying42 rfl HI.out
  refine bodyPost_ret (v := .agg (arr (m)).toArray) (results_cell rfl _ _ _ _ _ rfl (hl _ (by first | exact there_set HT2.out _ _ | exact there_set (there_set HT2.out _ _) _ _))) rfl ⟨rfl, ?_⟩
  refine below_cells' ?_ (Nat.le_refl _) _ _
  first | exact (HB2.out.setCell (p := ⟨w1.heap.size + 1, _, none⟩) (show W.heap.size ≤ w1.heap.size + 1 by omega) _).setCell (p := ⟨w1.heap.size + 1, _, none⟩) (show W.heap.size ≤ w1.heap.size + 1 by omega) _ | exact HB2.out.setCell (p := ⟨w1.heap.size + 1, _, none⟩) (show W.heap.size ≤ w1.heap.size + 1 by omega) _
theorem realUnits_any (b : Nat) (hb : b < 9223372036854775808) (W : World) :
    Calls Try.prog 12 #[.int .u64 (b : Int)] W fun x w' => x = .returned (.agg (arr (ph 52 b)).toArray) ∧ Below W.heap.size W w' := by
  have hp := parts 52 b
  have hf := Nat.mod_lt b (Nat.two_pow_pos 52)
  have he : exp64 (b : Int) = ((b / 2 ^ 52 : Nat) : Int) := by unfold exp64; omega
  have hm : frac64 (b : Int) = ((b % 2 ^ 52 : Nat) : Int) := by unfold frac64; omega
  have he2 : b / 2 ^ 52 < 2048 := by omega
  by_cases h : b / 2 ^ 52 = 0
  · have hph : ph 52 b = b % 2 ^ 52 := by
      have := ph_low 52 (b / 2 ^ 52) (b % 2 ^ 52) hf h
      rwa [← hp] at this
    rw [hph]
    exact realUnits_low b (b % 2 ^ 52) hb (by rw [he, h]; rfl) hm (by omega) W
  · have hph : ph 52 b = (b % 2 ^ 52 + 2 ^ 52) * 2 ^ (b / 2 ^ 52 - 1) := by
      have := ph_high 52 (b / 2 ^ 52) (b % 2 ^ 52) hf (by omega)
      rwa [← hp] at this
    rw [hph]
    exact realUnits_pos b (b / 2 ^ 52 - 1) (b % 2 ^ 52 + 2 ^ 52) hb (by rw [he]; omega) (by rw [hm]; omega) (by omega) (by omega) W
end Go.Proofs.Ytdlphcfmbhhfgaa.Rn
