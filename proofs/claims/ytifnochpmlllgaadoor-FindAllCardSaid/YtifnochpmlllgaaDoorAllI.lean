/-
  PROVED HERE: that the law FindAll returns true. Conditions: as each theorem states.
-/
import Derived.Test.YtifnochpmlllgaaDoorAllE
import Derived.Test.YtifnochpmlllgaaDoorAllF
import Derived.Test.YtifnochpmlllgaaDoorAllH
import Derived.Test.YtifnochpmlllgaaDoorSame
namespace Go.Proofs.YtifnochpmlllgaaDoor.All
open Go.RowKit
set_option maxRecDepth 100000 in
set_option maxHeartbeats 2000000 in
theorem findAll_walk (a0 a1 : ByteArray) (a2 : Int) (W : World) (hg : Err.Home W) :
    Calls Tryd.prog 12 #[.string a0, .string a1, .int .i64 a2] W fun e w' => e = .returned (.bool true) ∧ Below W.heap.size W w' := by
  by_cases hs : a0.size ≤ 300 ∧ a1.size ≤ 60
  · obtain ⟨hs0, hs1⟩ := hs
    have main : ∀ (L : List Int) (c v1 n1 v2 n2 : Int), L.length ≤ 1000000 →
        (∀ W', Calls Tryd.prog 54 #[.string a0, .string a1] W' (DQ L c W')) →
        (∀ W', Calls Tryd.prog 55 #[.string a0, .string a1] W' (RQ L c W')) →
        (∀ W', Calls Tryd.prog 56 #[.string a0, .string a1, .int .i64 a2, .bool true] W' (DN v1 n1 W')) →
        (∀ W', Calls Tryd.prog 57 #[.string a0, .string a1, .int .i64 a2] W' (NQ v1 n1 W')) →
        (∀ W', Calls Tryd.prog 56 #[.string a0, .string a1, .int .i64 a2, .bool false] W' (DN v2 n2 W')) →
        (∀ W', Calls Tryd.prog 58 #[.string a0, .string a1, .int .i64 a2] W' (NQ v2 n2 W')) →
        Calls Tryd.prog 12 #[.string a0, .string a1, .int .i64 a2] W fun e w' => e = .returned (.bool true) ∧ Below W.heap.size W w' := by
      intro L c v1 n1 v2 n2 hL k1 k2 k3 k4 k5 k6
      have HG := Lib.hid hg
      have HL := Lib.hid hL
      have C1 := Lib.hid k1
      have C2 := Lib.hid k2
      have C3 := Lib.hid k3
      have C4 := Lib.hid k4
      have C5 := Lib.hid k5
      have C6 := Lib.hid k6
      have C7 := Lib.hid (Borders_any a1 (by omega))
      have C8 := Lib.hid (docBorders_any a1 (by omega))
      have HB := Lib.hid (show (bl a1).length ≤ 1000000 by unfold bl; rw [List.length_map, List.length_range]; omega)
      generalize bl a1 = B at *
      clear hg hL k1 k2 k3 k4 k5 k6
      go_enter Tryd.func12, Tryd.ntmps12
      go_wp2_with fail
      refine (C1.out _).mono ?_; rintro e w1 ⟨x1, rfl, hI1, h1⟩
      obtain ⟨p1, q1, rfl, hc1⟩ := hI1
      have I1 := Lib.hid (show Ints w1 (.slice p1 L.length q1) L from ⟨p1, q1, rfl, hc1⟩)
      have H1 := Lib.hid h1
      clear h1 hc1
      go_wp2_with fail
      refine (C2.out _).mono ?_; rintro e w2 ⟨x2, rfl, hI2, h2⟩
      obtain ⟨p2, q2, rfl, hc2⟩ := hI2
      have I2 := Lib.hid (show Ints w2 (.slice p2 L.length q2) L from ⟨p2, q2, rfl, hc2⟩)
      have J2 := Lib.hid (I1.out.below h2)
      have H2 := Lib.hid (H1.out.trans (h2.mono H1.out.size))
      clear h2 hc2
      generalize hE : ev c = E1
      have hE1 := Lib.hid hE
      clear hE
      go_wp2_with fail
      refine (C3.out _).mono ?_; rintro e w3 ⟨rfl, h3⟩
      have I3 := Lib.hid (I2.out.below h3)
      have J3 := Lib.hid (J2.out.below h3)
      have H3 := Lib.hid (H2.out.trans (h3.mono H2.out.size))
      clear h3
      go_wp2_with fail
      refine (C4.out _).mono ?_; rintro e w4 ⟨rfl, h4⟩
      have I4 := Lib.hid (I3.out.below h4)
      have J4 := Lib.hid (J3.out.below h4)
      have H4 := Lib.hid (H3.out.trans (h4.mono H3.out.size))
      clear h4
      generalize hE : ev n1 = E2
      have hE2 := Lib.hid hE
      clear hE
      go_wp2_with fail
      refine (C5.out _).mono ?_; rintro e w5 ⟨rfl, h5⟩
      have I5 := Lib.hid (I4.out.below h5)
      have J5 := Lib.hid (J4.out.below h5)
      have H5 := Lib.hid (H4.out.trans (h5.mono H4.out.size))
      clear h5
      go_wp2_with fail
      refine (C6.out _).mono ?_; rintro e w6 ⟨rfl, h6⟩
      have I6 := Lib.hid (I5.out.below h6)
      have J6 := Lib.hid (J5.out.below h6)
      have H6 := Lib.hid (H5.out.trans (h6.mono H5.out.size))
      clear h6
      generalize hE : ev n2 = E3
      have hE3 := Lib.hid hE
      clear hE
      go_wp2_with fail
      refine (Err.bare_any E1 c (-1) c _ (HG.out.below H6.out) (by rw [← hE1.out]; exact ev_is _ _)).mono ?_; rintro e w7 ⟨rfl, h7⟩
      have I7 := Lib.hid (I6.out.below h7)
      have J7 := Lib.hid (J6.out.below h7)
      have H7 := Lib.hid (H6.out.trans (h7.mono H6.out.size))
      clear h7
      go_wp2_with fail
      refine (sameInts_any _ _ L _ I7.out J7.out HL.out).mono ?_; rintro e w8 ⟨rfl, h8⟩
      have H8 := Lib.hid (H7.out.trans (h8.mono H7.out.size))
      clear h8
      go_wp2_with fail
      refine (Err.bare_any E2 n1 (-1) n1 _ (HG.out.below H8.out) (by rw [← hE2.out]; exact ev_is _ _)).mono ?_; rintro e w9 ⟨rfl, h9⟩
      have H9 := Lib.hid (H8.out.trans (h9.mono H8.out.size))
      clear h9
      go_wp2_with fail
      refine (Err.bare_any E3 n2 (-1) n2 _ (HG.out.below H9.out) (by rw [← hE3.out]; exact ev_is _ _)).mono ?_; rintro e w10 ⟨rfl, h10⟩
      have H10 := Lib.hid (H9.out.trans (h10.mono H9.out.size))
      clear h10
      go_wp2_with fail
      refine (C7.out _).mono ?_; rintro e w11 ⟨x11, rfl, hI11, h11⟩
      obtain ⟨p11, q11, rfl, hc11⟩ := hI11
      have I11 := Lib.hid (show Ints w11 (.slice p11 B.length q11) B from ⟨p11, q11, rfl, hc11⟩)
      have H11 := Lib.hid (H10.out.trans (h11.mono H10.out.size))
      clear h11 hc11
      go_wp2_with fail
      refine (C8.out _).mono ?_; rintro e w12 ⟨x12, rfl, hI12, h12⟩
      obtain ⟨p12, q12, rfl, hc12⟩ := hI12
      have I12 := Lib.hid (show Ints w12 (.slice p12 B.length q12) B from ⟨p12, q12, rfl, hc12⟩)
      have I112 := Lib.hid (I11.out.below h12)
      have H12 := Lib.hid (H11.out.trans (h12.mono H11.out.size))
      clear h12 hc12
      go_wp2_with fail
      refine (sameInts_any _ _ B _ I112.out I12.out HB.out).mono ?_; rintro e w13 ⟨rfl, h13⟩
      have H13 := Lib.hid (H12.out.trans (h13.mono H12.out.size))
      clear h13
      go_wp2_with fail
      go_ret
      exact ⟨ret_bool (by simp), H13.out⟩
    by_cases hp : a1.size = 0
    · obtain rfl := empty_of a1 hp
      exact main [] 1 0 1 0 1 (by simp) (docAll_no a0) (all_no a0) (docNext_no a0 a2 true) (next_no a0 a2) (docNext_no a0 a2 false) (prev_no a0 a2)
    · exact main (al a0 a1 a0.size) 0 _ _ _ _ (Nat.le_trans (al_len a0 a1 a0.size) (by omega)) (docAll_yes a0 a1 (by omega) (by omega) (by omega)) (all_yes a0 a1 (by omega) (by omega) (by omega))
        (docNext_yes a0 a1 a2 true (by omega) (by omega) (by omega)) (next_yes a0 a1 a2 (by omega) (by omega) (by omega))
        (docNext_yes a0 a1 a2 false (by omega) (by omega) (by omega)) (prev_yes a0 a1 a2 (by omega) (by omega) (by omega))
  · rcases (show 300 < a0.size ∨ (¬ 300 < a0.size ∧ 60 < a1.size) by omega) with h1 | ⟨h1, h2⟩
    all_goals
      go_enter Tryd.func12, Tryd.ntmps12
      go_wp2_with fail
      go_ret
      exact ⟨rfl, Below.refl _ _⟩
end Go.Proofs.YtifnochpmlllgaaDoor.All
