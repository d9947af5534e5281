/-
  PROVED HERE: the contract of the document's realUnits. Conditions: as each theorem states.
-/
import Derived.Test.YtdlphcfmbhhfgaaRnG
namespace Go.Proofs.Ytdlphcfmbhhfgaa.Rn
open Go.RowKit Real
attribute [local go_sem ↓] Go.wp_at_zero Go.wp_at_succ
theorem there_drewN {w : World} {b n : Nat} (h : w.there b 0 n) (q : Nat) : (w.drewN q).there b 0 n := h
theorem alloc_there {X w' : World} {g b n : Nat} (hb : Below g X w') (hg : X.heap.size = g) (h : X.there b 0 n) : w'.there b 0 n := by subst hg; exact there_below h hb
theorem alloc_below {X w' W : World} {g : Nat} (hb : Below (g + 1) X w') (hg : W.heap.size + 1 ≤ g) (h : Below W.heap.size W X) : Below W.heap.size W w' := h.trans (hb.mono (by omega))
set_option maxRecDepth 100000 in
set_option maxHeartbeats 4000000 in
theorem realUnits_pos (b e m : Nat) (hb : b < 9223372036854775808) (he : exp64 (b : Int) = (e : Int) + 1) (hm : frac64 (b : Int) + 4503599627370496 = (m : Int)) (he2 : e ≤ 2046) (hm2 : m < 2 ^ 53) (W : World) :
    Calls Try.prog 12 #[.int .u64 (b : Int)] W fun x w' => x = .returned (.agg (arr (m * 2 ^ e)).toArray) ∧ Below W.heap.size W w' := by
  have C := Lib.hid (fun W => docApart_64 (b : Int) (by omega) (by omega) W)
  rw [he] at C
  obtain ⟨f, hf⟩ : ∃ f : Nat, frac64 (b : Int) = (f : Int) := ⟨m - 4503599627370496, by have := frac64_bd (b : Int); omega⟩
  rw [hf] at C hm
  have hfm : f + 4503599627370496 = m := by omega
  have hp0 : (f : Int) + 4503599627370496 = (m : Int) := hm
  have CP := Lib.hid (fun W => pow2_is 52 (by decide) (by decide) 4503599627370496 (by decide) W)
  generalize neg64 (b : Int) = N at *
  clear he hf
  have T00 := (new_range W zeros 42).2
  go_enter Try.func12, Try.ntmps12
  go_wp2_with (refine wpList_alloc_units rfl rfl W.heap.size rfl ?_; intro w0 r0 t0 b0 z0)
  have HT0 := Lib.hid t0
  have HB0 := Lib.hid b0
  clear r0 t0 b0 T00
  refine (C.out _).mono ?_; rintro x w1 ⟨rfl, h1⟩
  have HT1 := Lib.hid (there_below HT0.out h1)
  have HB1 := Lib.hid (HB0.out.trans (h1.mono (by omega)))
  have z1 : W.heap.size + 1 ≤ w1.heap.size := by have := h1.size; omega
  clear h1 z0
  go_wp2_with fail
  go_quiet (fail)
  go_wp2_with fail
  refine (CP.out _).mono ?_; rintro x w' ⟨rfl, rfl⟩
  have HI : Hid ((Try.prog.info? 42).map (·.size) = some (arr (m * 2 ^ e)).length) := Lib.hid (by rw [arr_len]; exact infoU)
  have HI2 : Hid ((Try.prog.info? 42).map (·.size) = some (arr (m * 2 ^ e)).toArray.size) := Lib.hid (by rw [arr_size]; exact infoU)
  have HM2 := Lib.hid hm2
  have d1 : e / 64 < 34 := by omega
  have d2 : e / 64 + 1 < 34 := by omega
  have hmw : IntKind.u64.wrap (m : Int) = (m : Int) := by
    have e9 : ∀ x : Int, IntKind.u64.wrap x = x % 18446744073709551616 := fun x => by simp [IntKind.wrap, IntKind.bits, IntKind.signed]
    rw [e9]; omega
  clear hm2
  by_cases hs : e % 64 = 0
  · have hs1 : ¬ 0 < (e : Int) % 64 := by omega
    have HS := Lib.hid hs
    clear hs
    go_wp2_with (first
      | (refine wpList_alloc_units rfl rfl (w1.heap.size + 1) (by simp) ?_; intro w2 r2 t2 b2 z2; have c1 := r2 (e / 64) _ (fn_get _ _ d1); have c2 := r2 (e / 64 + 1) _ (fn_get _ _ d2); have f1 := (t2 (e / 64) d1).2; have f2 := (t2 (e / 64 + 1) d2).2; rw [Nat.zero_add] at c1 c2 f1 f2; have HR2 := Lib.hid r2; have HB2 := Lib.hid (alloc_below b2 z1 (by first | exact HB1.out.alloc (by omega) _ | exact below_drewN (HB1.out.alloc (by omega) _) _ | exact (below_drewN HB1.out _).alloc (by simp; omega) _)); have HT2 := Lib.hid (alloc_there b2 (by simp) (by first | exact World.there_alloc HT1.out _ | exact there_drewN (World.there_alloc HT1.out _) _)); clear r2 t2 b2)
      | (refine wpList_load_stage rfl 42 _ rfl ?_; refine ⟨w1.heap.size + 1, 0, arr (m * 2 ^ e), _, rfl, one_set _ _ m e HR2.out HM2.out HS.out, Try.underlying42, rfl, HI.out, ?_⟩)
      | (refine wpList_store_stage rfl 42 _ _ rfl ?_; refine ⟨W.heap.size, 0, (arr (m * 2 ^ e)).toArray, rfl, rfl, (by rw [arr_size]; first | exact there_set (there_set HT2.out _ _) _ _ | exact there_set HT2.out _ _), HI2.out, arr_one _, ?_⟩))
    have hl := fun w (hh : World.there w W.heap.size 0 34) => run_loadVar_mid (P := Try.prog) _ _ _ 42 (arr (m * 2 ^ e)) _ (World.rangeAt_setCells_same w W.heap.size 0 (arr (m * 2 ^ e)) (by rw [arr_len]; exact hh)) Try.underlying42 rfl HI.out
    refine bodyPost_ret (v := .agg (arr (m * 2 ^ e)).toArray) (results_cell rfl _ _ _ _ _ rfl (hl _ (by first | exact there_set (there_set HT2.out _ _) _ _ | exact there_set HT2.out _ _))) rfl ⟨rfl, ?_⟩
    refine below_cells' ?_ (Nat.le_refl _) _ _
    first | exact (HB2.out.setCell (p := ⟨w1.heap.size + 1, _, none⟩) (show W.heap.size ≤ w1.heap.size + 1 by omega) _).setCell (p := ⟨w1.heap.size + 1, _, none⟩) (show W.heap.size ≤ w1.heap.size + 1 by omega) _ | exact HB2.out.setCell (p := ⟨w1.heap.size + 1, _, none⟩) (show W.heap.size ≤ w1.heap.size + 1 by omega) _
  · have hs1 : 0 < (e : Int) % 64 := by omega
    go_wp2_with (first
      | (refine wpList_alloc_units rfl rfl (w1.heap.size + 1) (by simp) ?_; intro w2 r2 t2 b2 z2; have c1 := r2 (e / 64) _ (fn_get _ _ d1); have c2 := r2 (e / 64 + 1) _ (fn_get _ _ d2); have f1 := (t2 (e / 64) d1).2; have f2 := (t2 (e / 64 + 1) d2).2; rw [Nat.zero_add] at c1 c2 f1 f2; have HR2 := Lib.hid r2; have HB2 := Lib.hid (alloc_below b2 z1 (by first | exact HB1.out.alloc (by omega) _ | exact below_drewN (HB1.out.alloc (by omega) _) _ | exact (below_drewN HB1.out _).alloc (by simp; omega) _)); have HT2 := Lib.hid (alloc_there b2 (by simp) (by first | exact World.there_alloc HT1.out _ | exact there_drewN (World.there_alloc HT1.out _) _)); clear r2 t2 b2)
      | (refine wpList_load_stage rfl 42 _ rfl ?_; refine ⟨w1.heap.size + 1, 0, arr (m * 2 ^ e), _, rfl, two_set _ _ m e HR2.out HM2.out, Try.underlying42, rfl, HI.out, ?_⟩)
      | (refine wpList_store_stage rfl 42 _ _ rfl ?_; refine ⟨W.heap.size, 0, (arr (m * 2 ^ e)).toArray, rfl, rfl, (by rw [arr_size]; first | exact there_set (there_set HT2.out _ _) _ _ | exact there_set HT2.out _ _), HI2.out, arr_one _, ?_⟩))
    have hl := fun w (hh : World.there w W.heap.size 0 34) => run_loadVar_mid (P := Try.prog) _ _ _ 42 (arr (m * 2 ^ e)) _ (World.rangeAt_setCells_same w W.heap.size 0 (arr (m * 2 ^ e)) (by rw [arr_len]; exact hh)) Try.underlying42 rfl HI.out
    refine bodyPost_ret (v := .agg (arr (m * 2 ^ e)).toArray) (results_cell rfl _ _ _ _ _ rfl (hl _ (by first | exact there_set (there_set HT2.out _ _) _ _ | exact there_set HT2.out _ _))) rfl ⟨rfl, ?_⟩
    refine below_cells' ?_ (Nat.le_refl _) _ _
    first | exact (HB2.out.setCell (p := ⟨w1.heap.size + 1, _, none⟩) (show W.heap.size ≤ w1.heap.size + 1 by omega) _).setCell (p := ⟨w1.heap.size + 1, _, none⟩) (show W.heap.size ≤ w1.heap.size + 1 by omega) _ | exact HB2.out.setCell (p := ⟨w1.heap.size + 1, _, none⟩) (show W.heap.size ≤ w1.heap.size + 1 by omega) _
end Go.Proofs.Ytdlphcfmbhhfgaa.Rn
