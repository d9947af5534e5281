/-
  PROVED HERE: the document's Has, and the closure of SpansOf. Conditions: as each theorem states.
-/
import Derived.Test.YthpenogkejoljaaSpG
namespace Go.Proofs.Ythpenogkejoljaa.Sp
open Go.RowKit
def hsb (l : List Spn) (a : Int) : Bool := l.any fun x => decide (x.1 ≤ a) && decide (a < x.2)
theorem hsb_iff (l : List Spn) (a : Int) : hsb l a = true ↔ Hs l a := by
  unfold hsb Hs
  rw [List.any_eq_true]
  constructor
  · rintro ⟨x, hx, h⟩
    simp only [Bool.and_eq_true, decide_eq_true_eq] at h
    exact ⟨x, hx, h⟩
  · rintro ⟨x, hx, h⟩
    exact ⟨x, hx, by simp only [Bool.and_eq_true, decide_eq_true_eq]; exact h⟩
theorem hsb_take (l : List Spn) (k : Nat) (hk : k < l.length) (a : Int) : hsb (l.take (k + 1)) a = (hsb (l.take k) a || (decide (l[k].1 ≤ a) && decide (a < l[k].2))) := by
  unfold hsb
  rw [List.take_succ_eq_append_getElem hk, List.any_append]
  simp
theorem hsb_hit (l : List Spn) (k : Nat) (hk : k < l.length) (a : Int) (h1 : l[k].1 ≤ a) (h2 : a < l[k].2) : hsb l a = true := (hsb_iff l a).2 ⟨l[k], List.getElem_mem hk, h1, h2⟩
set_option maxRecDepth 100000 in
set_option maxHeartbeats 2000000 in
theorem has_any (w : World) (v : Value) (l : List Spn) (at_ : Int) (h : Sps w v l) (hn : l.length ≤ 10000) : Calls Try.prog 13 #[v, .int .i64 at_] w fun e w' => e = .returned (.bool (hsb l at_)) ∧ Below w.heap.size w w' := by
  have UH := Lib.hid h
  obtain ⟨a, cap, rfl, -⟩ := h
  go_enter Try.func13, Try.ntmps13
  go_wp2_with fail
  go_loopw [9] (fun i wr => ∃ k : Nat, k ≤ l.length ∧ i = .int .i64 (k : Int) ∧ Hid (hsb (l.take k) at_ = false) ∧ Hid (Below w.heap.size w wr)) (fun i _ => l.length - (intOf i).toNat)
  case atStart => exact ⟨0, Nat.zero_le _, rfl, Lib.hid (by simp [hsb]), Lib.hid (Below.refl _ _)⟩
  case round =>
    obtain ⟨k, hk, rfl, hF, hB⟩ := hrel
    by_cases hlt : k < l.length
    · obtain ⟨ad, rfl, x0, x1⟩ := UH.out.at_ k hlt
      have i1 : (0 : Int) ≤ (k : Int) := by omega
      have i2 : (k : Int) < (l.length : Int) := by omega
      have y0 := keepCell hB.out x0
      have y1 := keepCell hB.out x1
      have hT := Lib.hid (hsb_take l k hlt at_)
      have hH := Lib.hid (hsb_hit l k hlt at_)
      clear x0 x1
      generalize l[k] = x at *
      obtain ⟨xf, xt⟩ := x
      simp only at y0 y1
      have hB2 := Lib.hid (hB.out.alloc hB.out.size (.cells #[.int .i64 xf, .int .i64 xt] 26))
      by_cases h1 : xf ≤ at_
      · have d1 : decide (xf ≤ at_) = true := decide_eq_true h1
        by_cases h2 : at_ < xt
        · have d2 : decide (at_ < xt) = true := decide_eq_true h2
          have hr := Lib.hid (hH.out h1 h2)
          clear hH hT hF
          go_wp2_with fail
          go_ret
          exact ⟨by rw [hr.out]; rfl, hB2.out⟩
        · have d2 : decide (at_ < xt) = false := decide_eq_false h2
          have hF2 : Hid (hsb (l.take (k + 1)) at_ = false) := Lib.hid (by rw [hT.out, hF.out]; simp only; rw [d1, d2]; rfl)
          clear hH hT hF
          go_wp2_with fail
          go_roundw
          case rel => first | exact ⟨k + 1, by omega, by go_num, hF2, hB2⟩ | ((repeat apply Exists.intro); exact ⟨⟨k + 1, by omega, by go_num, hF2, hB2⟩, rfl⟩)
          case measure => simp [intOf]; omega
      · have d1 : decide (xf ≤ at_) = false := decide_eq_false h1
        have hF2 : Hid (hsb (l.take (k + 1)) at_ = false) := Lib.hid (by rw [hT.out, hF.out]; simp only; rw [d1]; rfl)
        clear hH hT hF
        go_wp2_with fail
        go_roundw
        case rel => first | exact ⟨k + 1, by omega, by go_num, hF2, hB2⟩ | ((repeat apply Exists.intro); exact ⟨⟨k + 1, by omega, by go_num, hF2, hB2⟩, rfl⟩)
        case measure => simp [intOf]; omega
    · obtain rfl : k = l.length := by omega
      rw [List.take_length] at hF
      go_wp2_with fail
      go_ret
      exact ⟨by rw [hF.out]; rfl, hB.out⟩
set_option maxRecDepth 100000 in
theorem closure_any (w : World) (g : Nat) (v : Value) (l : List Spn) (at_ : Int) (hc : w.cell? ⟨g, 0, none⟩ = some v) (h : Sps w v l) (hn : l.length ≤ 10000) : Calls Try.prog 24 #[.int .i64 at_, .pointer (some ⟨g, 0, none⟩)] w fun e w' => e = .returned (.bool (hsb l at_)) ∧ Below w.heap.size w w' := by
  have C := Lib.hid (has_any w v l at_ h hn)
  obtain ⟨a, cap, rfl, -⟩ := h
  go_enter Try.func24, Try.ntmps24
  go_wp2_with fail
  refine C.out.mono ?_; rintro e w1 ⟨rfl, hb⟩
  have HB := Lib.hid hb
  clear hb
  go_wp2_with fail
  go_ret
  exact ⟨rfl, HB.out⟩
end Go.Proofs.Ythpenogkejoljaa.Sp
