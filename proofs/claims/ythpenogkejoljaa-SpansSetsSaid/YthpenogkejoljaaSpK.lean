/-
  PROVED HERE: Moved of the program and of the document, many, SpansOf. Conditions: as each theorem states.
-/
import Derived.Test.YthpenogkejoljaaSpJ
import Derived.Test.YthpenogkejoljaaSpC
namespace Go.Proofs.Ythpenogkejoljaa.Sp
open Go.RowKit
def mv (p at_ out inn : Int) : Int := if p < at_ then p else if out ≤ p - at_ then p - out + inn else if at_ + inn < p then at_ + inn else p
def In40 (x : Int) : Prop := 0 ≤ x ∧ x ≤ 1099511627776
set_option maxRecDepth 100000 in
set_option maxHeartbeats 2000000 in
theorem docMoved_any (w : World) (p at_ out inn : Int) (hp : In40 p) (ha : In40 at_) (ho : In40 out) (hi : In40 inn) : Calls Try.prog 7 #[.int .i64 p, .int .i64 at_, .int .i64 out, .int .i64 inn] w fun e w' => e = .returned (.int .i64 (mv p at_ out inn)) ∧ w' = w := by
  unfold In40 at *
  have g1 : IntKind.i64.wrap (p - at_) = p - at_ := IntWalk.i64_in _ (by omega)
  have g2 : IntKind.i64.wrap (p - out) = p - out := IntWalk.i64_in _ (by omega)
  have g3 : IntKind.i64.wrap (p - out + inn) = p - out + inn := IntWalk.i64_in _ (by omega)
  have g4 : IntKind.i64.wrap (at_ + inn) = at_ + inn := IntWalk.i64_in _ (by omega)
  by_cases h1 : p < at_
  · have hr : mv p at_ out inn = p := if_pos h1
    have d1 : decide (p < at_) = true := decide_eq_true h1
    rw [hr]
    go_enter Try.func7, Try.ntmps7
    go_wp2_with fail
    go_ret
    exact ⟨rfl, rfl⟩
  have d1 : decide (p < at_) = false := decide_eq_false h1
  by_cases h2 : out ≤ p - at_
  · have hr : mv p at_ out inn = p - out + inn := (if_neg h1).trans (if_pos h2)
    have d2 : decide (out ≤ p - at_) = true := decide_eq_true h2
    rw [hr]
    go_enter Try.func7, Try.ntmps7
    go_wp2_with fail
    go_ret
    exact ⟨rfl, rfl⟩
  have d2 : decide (out ≤ p - at_) = false := decide_eq_false h2
  by_cases h3 : at_ + inn < p
  · have hr : mv p at_ out inn = at_ + inn := (if_neg h1).trans ((if_neg h2).trans (if_pos h3))
    rw [hr]
    go_enter Try.func7, Try.ntmps7
    go_wp2_with fail
    go_ret
    exact ⟨by first | rfl | (congr 2; omega), rfl⟩
  · have hr : mv p at_ out inn = p := (if_neg h1).trans ((if_neg h2).trans (if_neg h3))
    rw [hr]
    go_enter Try.func7, Try.ntmps7
    go_wp2_with fail
    go_ret
    exact ⟨by first | rfl | (congr 2; omega), rfl⟩
set_option maxRecDepth 100000 in
set_option maxHeartbeats 2000000 in
theorem moved_any (w : World) (p at_ out inn : Int) (hp : In40 p) (ha : In40 at_) (ho : In40 out) (hi : In40 inn) : Calls Try.prog 8 #[.int .i64 p, .int .i64 at_, .int .i64 out, .int .i64 inn] w fun e w' => e = .returned (.int .i64 (mv p at_ out inn)) ∧ w' = w := by
  unfold In40 at *
  have g1 : IntKind.i64.wrap (at_ + out) = at_ + out := IntWalk.i64_in _ (by omega)
  have g2 : IntKind.i64.wrap (p - out) = p - out := IntWalk.i64_in _ (by omega)
  have g3 : IntKind.i64.wrap (p - out + inn) = p - out + inn := IntWalk.i64_in _ (by omega)
  have g4 : IntKind.i64.wrap (p - at_) = p - at_ := IntWalk.i64_in _ (by omega)
  have g5 : IntKind.i64.wrap (at_ + inn) = at_ + inn := IntWalk.i64_in _ (by omega)
  have g6 : IntKind.i64.wrap (at_ + (p - at_)) = p := by rw [IntWalk.i64_in _ (by omega)]; omega
  by_cases h1 : p < at_
  · have hr : mv p at_ out inn = p := if_pos h1
    have d1 : decide (p < at_) = true := decide_eq_true h1
    rw [hr]
    go_enter Try.func8, Try.ntmps8
    go_wp2_with fail
    go_ret
    exact ⟨rfl, rfl⟩
  have d1 : decide (p < at_) = false := decide_eq_false h1
  by_cases h2 : at_ + out ≤ p
  · have hr : mv p at_ out inn = p - out + inn := (if_neg h1).trans (if_pos (by omega))
    have d2 : decide (at_ + out ≤ p) = true := decide_eq_true h2
    rw [hr]
    go_enter Try.func8, Try.ntmps8
    go_wp2_with fail
    go_ret
    exact ⟨rfl, rfl⟩
  have d2 : decide (at_ + out ≤ p) = false := decide_eq_false h2
  by_cases h3 : inn < p - at_
  · have hr : mv p at_ out inn = at_ + inn := (if_neg h1).trans ((if_neg (by omega)).trans (if_pos (by omega)))
    rw [hr]
    go_enter Try.func8, Try.ntmps8
    go_wp2_with fail
    go_ret
    exact ⟨by first | rfl | (congr 2; omega), rfl⟩
  · have hr : mv p at_ out inn = p := (if_neg h1).trans ((if_neg (by omega)).trans (if_neg (by omega)))
    rw [hr]
    go_enter Try.func8, Try.ntmps8
    go_wp2_with fail
    go_ret
    exact ⟨by first | rfl | (congr 2; omega), rfl⟩
theorem many_any (w : World) (a : Option Addr) (n c : Nat) : Calls Try.prog 5 #[.slice a n c] w fun e w' => e = .returned (.bool (decide ((60 : Int) < (n : Int)))) ∧ w' = w := by
  go_enter Try.func5, Try.ntmps5
  go_wp2_with fail
  go_ret
  exact ⟨by first | rfl | simp, rfl⟩
def OfD (l : List Spn) (w : World) (e : Ending) (w' : World) : Prop := ∃ v r, e = .returned v ∧ Sps w' v r ∧ Same l r ∧ r.length ≤ 1 + 2 * l.length ∧ (∀ x ∈ r, I64 x.1 ∧ I64 x.2) ∧ Below w.heap.size w w'
set_option maxRecDepth 100000 in
set_option maxHeartbeats 2000000 in
theorem spansOf_any (w : World) (v : Value) (l : List Spn) (h : Sps w v l) (hb : ∀ x ∈ l, I64 x.1 ∧ I64 x.2) (hn : l.length ≤ 500) : Calls Try.prog 6 #[v] w (OfD l w) := by
  have H := Lib.hid h
  have hb2 : Below w.heap.size w ((w.alloc (.cells #[v] 22)).alloc (.cells #[v] 22)) := ((Below.refl _ w).alloc (Nat.le_refl _) _).alloc (by simp) _
  have hL : Lls ((w.alloc (.cells #[v] 22)).alloc (.cells #[v] 22)) (.slice (some ⟨w.heap.size + 1, 0, none⟩) 1 1) [l] := ⟨_, 1, rfl, fun j hj => by
    obtain rfl : j = 0 := by simpa using hj
    refine ⟨_, v, rfl, ?_, h.below hb2⟩
    rw [Addr.add_mid]
    have := new_cell (w.alloc (.cells #[v] 22)) v 22
    rwa [World.size_alloc] at this⟩
  have hc : ((w.alloc (.cells #[v] 22)).alloc (.cells #[v] 22)).cell? ⟨w.heap.size, 0, none⟩ = some v := keepCell ((Below.refl _ _).alloc (Nat.le_refl _) _) (new_cell w v _)
  have C := Lib.hid (chosen_any _ (.pointer (some ⟨w.heap.size, 0, none⟩)) _ [l] (hsb l) hL (fun m hm => by obtain rfl := List.mem_singleton.1 hm; exact hb) (by simpa using hn) (by simp)
    (fun W' hW a => closure_any W' w.heap.size v l a (keepCell hW hc) ((h.below hb2).below hW) (by omega))
    (fun e hu h0 he a j hj h1 h2 => by rw [hsb_iff, hsb_iff]; exact has_stretch hu h0 (he l (List.mem_singleton.2 rfl)) hj h1 h2)
    (fun e he a h0 hF => has_end (he l (List.mem_singleton.2 rfl)) h0 ((hsb_iff l a).1 hF)))
  have HB2 := Lib.hid hb2
  obtain ⟨a, cap, rfl, -⟩ := h
  clear hL hc hb2 hb
  go_enter Try.func6, Try.ntmps6
  go_wp2_with fail
  refine C.out.mono ?_; rintro e w1 ⟨v1, o, rfl, h1, h2, h3, h4, h5, h6⟩
  have R := Lib.hid (And.intro h1 (And.intro h2 (And.intro h3 (And.intro h4 (And.intro h5 (HB2.out.trans (h6.mono HB2.out.size)))))))
  clear h1 h2 h3 h4 h5 h6
  go_wp2_with fail
  go_ret
  exact ⟨_, o, rfl, R.out.1, ⟨R.out.2.1, fun a => by rw [R.out.2.2.1 a, hsb_iff]⟩, by simpa using R.out.2.2.2.1, R.out.2.2.2.2.1, R.out.2.2.2.2.2⟩
end Go.Proofs.Ythpenogkejoljaa.Sp
