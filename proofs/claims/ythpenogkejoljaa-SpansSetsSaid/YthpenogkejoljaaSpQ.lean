/-
  PROVED HERE: the program's spans.Has. Conditions: as each theorem states.
-/
import Derived.Test.YthpenogkejoljaaSpI
namespace Go.Proofs.Ythpenogkejoljaa.Sp
open Go.RowKit
set_option maxRecDepth 100000 in
theorem test_any (w : World) (g : Nat) (x : Spn) (at_ : Int) (hc : w.cell? ⟨g, 0, none⟩ = some (.int .i64 at_)) : Calls Try.prog 27 #[.agg #[.int .i64 x.1, .int .i64 x.2], .pointer (some ⟨g, 0, none⟩)] w fun e w' => e = .returned (.bool (decide (x.1 ≤ at_) && decide (at_ < x.2))) ∧ Below w.heap.size w w' := by
  obtain ⟨a, b⟩ := x
  simp only
  have hc2 : (w.alloc (.cells #[.int .i64 a, .int .i64 b] 26)).cell? ⟨g, 0, none⟩ = some (.int .i64 at_) := keepCell ((Below.refl _ _).alloc (Nat.le_refl _) _) hc
  have hB := Lib.hid ((Below.refl w.heap.size w).alloc (Nat.le_refl _) (.cells #[.int .i64 a, .int .i64 b] 26))
  by_cases h1 : a ≤ at_
  · have d1 := decide_eq_true h1
    by_cases h2 : at_ < b
    · have d2 := decide_eq_true h2
      rw [d1, d2]
      go_enter Try.func27, Try.ntmps27
      go_wp2_with fail
      go_ret
      exact ⟨rfl, hB.out⟩
    · have d2 := decide_eq_false h2
      rw [d1, d2]
      go_enter Try.func27, Try.ntmps27
      go_wp2_with fail
      go_ret
      exact ⟨rfl, hB.out⟩
  · have d1 := decide_eq_false h1
    rw [d1, Bool.false_and]
    go_enter Try.func27, Try.ntmps27
    go_wp2_with fail
    go_ret
    exact ⟨rfl, hB.out⟩
set_option maxRecDepth 100000 in
set_option maxHeartbeats 2000000 in
theorem index_any (w : World) (g : Nat) (v : Value) (l : List Spn) (at_ : Int) (h : Sps w v l) (hc : w.cell? ⟨g, 0, none⟩ = some (.int .i64 at_)) (hn : l.length ≤ 10000) :
    Calls Try.prog 31 #[v, .func (.func 27) #[] #[.pointer (some ⟨g, 0, none⟩)]] w fun e w' => ∃ i : Int, e = .returned (.int .i64 i) ∧ (hsb l at_ = decide (0 ≤ i)) ∧ Below w.heap.size w w' := by
  have UH := Lib.hid h
  have TC := Lib.hid (fun W (hW : Below w.heap.size w W) x => test_any W g x at_ (keepCell hW hc))
  obtain ⟨a, cap, rfl, -⟩ := h
  clear hc
  go_enter Try.func31, Try.ntmps31
  go_wp2_with fail
  go_loopw [8] (fun i wr => ∃ k : Nat, k ≤ l.length ∧ i = .int .i64 (k : Int) ∧ Hid (hsb (l.take k) at_ = false) ∧ Hid (Below w.heap.size w wr)) (fun i _ => l.length - (intOf i).toNat)
  case atStart => exact ⟨0, Nat.zero_le _, rfl, Lib.hid (by simp [hsb]), Lib.hid (Below.refl _ _)⟩
  case round =>
    obtain ⟨k, hk, rfl, hF, hB⟩ := hrel
    by_cases hlt : k < l.length
    · obtain ⟨ad, rfl, x0, x1⟩ := UH.out.at_ k hlt
      have i1 : (0 : Int) ≤ (k : Int) := by omega
      have i2 : (k : Int) < (l.length : Int) := by omega
      have y0 := keepCell hB.out x0
      have y1 := keepCell hB.out x1
      have hT := Lib.hid (hsb_take l k hlt at_)
      have hH := Lib.hid (hsb_hit l k hlt at_)
      have C := Lib.hid (TC.out wr hB.out l[k])
      clear x0 x1
      generalize l[k] = x at *
      obtain ⟨xf, xt⟩ := x
      simp only at y0 y1
      have CC : Hid (Calls Try.prog 27 #[.agg #[.int .i64 xf, .int .i64 xt], .pointer (some ⟨g, 0, none⟩)] wr fun e w' => e = .returned (.bool (decide (xf ≤ at_) && decide (at_ < xt))) ∧ Below wr.heap.size wr w') := C
      clear C
      cases hD : (decide (xf ≤ at_) && decide (at_ < xt)) with
      | true =>
        rw [hD] at CC
        have hr : Hid (hsb l at_ = true) := Lib.hid (by
          simp only [Bool.and_eq_true, decide_eq_true_eq] at hD
          exact hH.out hD.1 hD.2)
        clear hT hH hF hD
        go_wp2_with fail
        refine CC.out.mono ?_; rintro e w3 ⟨rfl, hb3⟩
        have HB3 := Lib.hid (hB.out.trans (hb3.mono hB.out.size))
        clear hb3
        go_wp2_with fail
        go_ret
        exact ⟨(k : Int), rfl, by rw [hr.out]; exact (decide_eq_true i1).symm, HB3.out⟩
      | false =>
        rw [hD] at CC
        have hF2 : Hid (hsb (l.take (k + 1)) at_ = false) := Lib.hid (by rw [hT.out, hF.out]; simp only; rw [hD]; rfl)
        clear hT hH hF hD
        go_wp2_with fail
        refine CC.out.mono ?_; rintro e w3 ⟨rfl, hb3⟩
        have HB3 := Lib.hid (hB.out.trans (hb3.mono hB.out.size))
        clear hb3
        go_wp2_with fail
        go_roundw
        case rel => first | exact ⟨k + 1, by omega, by go_num, hF2, HB3⟩ | ((repeat apply Exists.intro); exact ⟨⟨k + 1, by omega, by go_num, hF2, HB3⟩, rfl⟩)
        case measure => simp [intOf]; omega
    · obtain rfl : k = l.length := by omega
      rw [List.take_length] at hF
      go_wp2_with fail
      go_ret
      exact ⟨-1, rfl, by rw [hF.out]; decide, hB.out⟩
set_option maxRecDepth 100000 in
theorem progHas_any (w : World) (v : Value) (l : List Spn) (at_ : Int) (h : Sps w v l) (hn : l.length ≤ 10000) : Calls Try.prog 18 #[v, .int .i64 at_] w fun e w' => e = .returned (.bool (hsb l at_)) ∧ Below w.heap.size w w' := by
  have hb : Below w.heap.size w (w.alloc (.cells #[.int .i64 at_] 3)) := (Below.refl _ _).alloc (Nat.le_refl _) _
  have HB := Lib.hid hb
  have CI := Lib.hid (index_any (w.alloc (.cells #[.int .i64 at_] 3)) w.heap.size v l at_ (h.below hb) (new_cell w _ _) hn)
  have CC : Hid (Calls Try.prog 26 #[v, .func (.func 27) #[] #[.pointer (some ⟨w.heap.size, 0, none⟩)]] (w.alloc (.cells #[.int .i64 at_] 3)) fun e w' => e = .returned (.bool (hsb l at_)) ∧ Below w.heap.size w w') := Lib.hid (by
    obtain ⟨a, cap, rfl, -⟩ := h
    clear hb
    go_enter Try.func26, Try.ntmps26
    go_wp2_with fail
    refine CI.out.mono ?_; rintro e w1 ⟨i, rfl, hi, hb1⟩
    have HI := Lib.hid hi
    have HB1 := Lib.hid (HB.out.trans (hb1.mono HB.out.size))
    clear hi hb1
    go_wp2_with fail
    go_ret
    exact ⟨by rw [HI.out]; rfl, HB1.out⟩)
  obtain ⟨a, cap, rfl, -⟩ := h
  clear CI hb
  go_enter Try.func18, Try.ntmps18
  go_wp2_with fail
  refine CC.out.mono ?_; rintro e w1 ⟨rfl, hb1⟩
  have HB1 := Lib.hid hb1
  clear hb1
  go_wp2_with fail
  go_ret
  exact ⟨rfl, HB1.out⟩
end Go.Proofs.Ythpenogkejoljaa.Sp
