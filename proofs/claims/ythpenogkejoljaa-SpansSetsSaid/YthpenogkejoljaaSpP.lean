/-
  PROVED HERE: the three closures of the law SpansSets. Conditions: as each theorem states.
-/
import Derived.Test.YthpenogkejoljaaSpI
namespace Go.Proofs.Ythpenogkejoljaa.Sp
open Go.RowKit
set_option maxRecDepth 100000 in
theorem closure1_any (w : World) (g1 g2 : Nat) (v1 v2 : Value) (a b : List Spn) (at_ : Int) (h1 : w.cell? ⟨g1, 0, none⟩ = some v1) (h2 : w.cell? ⟨g2, 0, none⟩ = some v2) (ha : Sps w v1 a) (hb : Sps w v2 b) (hn : a.length ≤ 10000) (hn2 : b.length ≤ 10000) :
    Calls Try.prog 12 #[.int .i64 at_, .pointer (some ⟨g1, 0, none⟩), .pointer (some ⟨g2, 0, none⟩)] w fun e w' => e = .returned (.bool (hsb a at_ || hsb b at_)) ∧ Below w.heap.size w w' := by
  have C := Lib.hid (has_any w v1 a at_ ha hn)
  have C2 := Lib.hid (fun W (hW : Below w.heap.size w W) => has_any W v2 b at_ (hb.below hW) hn2)
  obtain ⟨p1, k1, rfl, -⟩ := ha
  obtain ⟨p2, k2, rfl, -⟩ := hb
  cases hF : hsb a at_ with
  | true =>
    rw [hF] at C
    clear hF C2
    go_enter Try.func12, Try.ntmps12
    go_wp2_with fail
    refine C.out.mono ?_; rintro e w1 ⟨rfl, hb1⟩
    have HB := Lib.hid hb1
    clear hb1
    go_wp2_with fail
    go_ret
    exact ⟨rfl, HB.out⟩
  | false =>
    rw [hF] at C
    clear hF
    go_enter Try.func12, Try.ntmps12
    go_wp2_with fail
    refine C.out.mono ?_; rintro e w1 ⟨rfl, hb1⟩
    have HB := Lib.hid hb1
    have h2' := keepCell hb1 h2
    clear hb1
    go_wp2_with fail
    refine (C2.out _ HB.out).mono ?_; rintro e w2 ⟨rfl, hb2⟩
    have HB2 := Lib.hid (HB.out.trans (hb2.mono HB.out.size))
    clear hb2
    go_wp2_with fail
    go_ret
    exact ⟨by simp, HB2.out⟩
set_option maxRecDepth 100000 in
theorem closure2_any (w : World) (g1 g2 : Nat) (v1 v2 : Value) (a b : List Spn) (at_ : Int) (h1 : w.cell? ⟨g1, 0, none⟩ = some v1) (h2 : w.cell? ⟨g2, 0, none⟩ = some v2) (ha : Sps w v1 a) (hb : Sps w v2 b) (hn : a.length ≤ 10000) (hn2 : b.length ≤ 10000) :
    Calls Try.prog 14 #[.int .i64 at_, .pointer (some ⟨g1, 0, none⟩), .pointer (some ⟨g2, 0, none⟩)] w fun e w' => e = .returned (.bool (hsb a at_ && hsb b at_)) ∧ Below w.heap.size w w' := by
  have C := Lib.hid (has_any w v1 a at_ ha hn)
  have C2 := Lib.hid (fun W (hW : Below w.heap.size w W) => has_any W v2 b at_ (hb.below hW) hn2)
  obtain ⟨p1, k1, rfl, -⟩ := ha
  obtain ⟨p2, k2, rfl, -⟩ := hb
  cases hF : hsb a at_ with
  | false =>
    rw [hF] at C
    clear hF C2
    go_enter Try.func14, Try.ntmps14
    go_wp2_with fail
    refine C.out.mono ?_; rintro e w1 ⟨rfl, hb1⟩
    have HB := Lib.hid hb1
    clear hb1
    go_wp2_with fail
    go_ret
    exact ⟨rfl, HB.out⟩
  | true =>
    rw [hF] at C
    clear hF
    go_enter Try.func14, Try.ntmps14
    go_wp2_with fail
    refine C.out.mono ?_; rintro e w1 ⟨rfl, hb1⟩
    have HB := Lib.hid hb1
    have h2' := keepCell hb1 h2
    clear hb1
    go_wp2_with fail
    refine (C2.out _ HB.out).mono ?_; rintro e w2 ⟨rfl, hb2⟩
    have HB2 := Lib.hid (HB.out.trans (hb2.mono HB.out.size))
    clear hb2
    go_wp2_with fail
    go_ret
    exact ⟨by simp, HB2.out⟩
set_option maxRecDepth 100000 in
theorem closure3_any (w : World) (g1 g2 : Nat) (n : Int) (v2 : Value) (a : List Spn) (at_ : Int) (h1 : w.cell? ⟨g1, 0, none⟩ = some (.int .i64 n)) (h2 : w.cell? ⟨g2, 0, none⟩ = some v2) (ha : Sps w v2 a) (hn : a.length ≤ 10000) :
    Calls Try.prog 15 #[.int .i64 at_, .pointer (some ⟨g1, 0, none⟩), .pointer (some ⟨g2, 0, none⟩)] w fun e w' => e = .returned (.bool (decide (at_ < n) && !hsb a at_)) ∧ Below w.heap.size w w' := by
  have C := Lib.hid (has_any w v2 a at_ ha hn)
  obtain ⟨p2, k2, rfl, -⟩ := ha
  by_cases hc : at_ < n
  · have d := decide_eq_true hc
    go_enter Try.func15, Try.ntmps15
    go_wp2_with fail
    refine C.out.mono ?_; rintro e w1 ⟨rfl, hb1⟩
    have HB := Lib.hid hb1
    clear hb1
    go_wp2_with fail
    go_ret
    exact ⟨by simp [hc], HB.out⟩
  · have d := decide_eq_false hc
    go_enter Try.func15, Try.ntmps15
    go_wp2_with fail
    go_ret
    exact ⟨by simp [hc], Below.refl _ _⟩
end Go.Proofs.Ythpenogkejoljaa.Sp
