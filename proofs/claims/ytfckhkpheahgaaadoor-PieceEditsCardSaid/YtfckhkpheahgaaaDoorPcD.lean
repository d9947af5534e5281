/-
  PROVED HERE: the contract of piece's level in every case. Conditions: as each theorem states.
-/
import Derived.Test.YtfckhkpheahgaaaDoorPcC
namespace Go.Proofs.YtfckhkpheahgaaaDoor.Pc
open Go.RowKit
set_option maxRecDepth 100000 in
set_option maxHeartbeats 2000000 in
theorem level_left1 (w : World) (p q : Option Addr) (a c U : Tr) (s t : ByteArray) (hT : IsT w (.pointer p) (.node a s c)) (hU : IsT w (.pointer q) U) (f1 : Fit (.node a s c)) (f2 : Fit U) (b3 : 1 ≤ t.size) (b : (Tr.node a s c).txt.length + t.size + U.txt.length ≤ 50000) (hc : ¬ a.hgt < c.hgt) (hh : U.hgt + 1 < (Tr.node a s c).hgt) :
    Calls Tryd.prog 20 #[.pointer p, .string t, .pointer q] w (HasP ((Tr.node a s c).txt ++ lst t ++ U.txt) w) := by
    have H1 := Lib.hid (high_any w _ _ hT)
    have H2 := Lib.hid (high_any w _ _ hU)
    obtain ⟨g, vl, vr, e, c0, c1, c2, c3, c4, hl, hr⟩ := hT
    obtain rfl : p = some ⟨g, 0, none⟩ := by injection e
    have H3q := Lib.hid (high_q w _ _ hl)
    have H4q := Lib.hid (high_q w _ _ hr)
    clear e c1 c2
    have hh' : ((U.hgt : Nat) : Int) + 1 < (((Tr.node a s c).hgt : Nat) : Int) := by omega
    have hU' : ((U.hgt : Nat) : Int) ≤ 100000 := by have := f2.hgt; omega
    have hc' : decide ((a.hgt : Nat) < (c.hgt : Nat)) = false := decide_eq_false hc
    have Fa := f1.left
    have Fc := f1.right
    have bc := b
    rw [len_node] at bc
    have G1 := Lib.hid (fit_node (l := c) (t := t) (r := U) Fc.1 b3 f2.1 (by omega))
    have C1 := Lib.hid (fun W hW => join_late (t := t) hr hU Fc f2 (by omega) W hW)
    have HA := Lib.hid hl
    clear hc hh bc
    go_enter Tryd.func20, Tryd.ntmps20
    go_wp2_with fail
    refine H1.out.mono ?_; rintro e w' ⟨rfl, rfl⟩
    go_wp2_with fail
    refine H2.out.mono ?_; rintro e w' ⟨rfl, rfl⟩
    go_wp2_with fail
    go_quiet ((go_at_call 18; first | (with_reducible exact Calls.quiet_of_same (H3q.out _)) | (with_reducible exact Calls.quiet_of_same (H4q.out _))))
    go_wp2_with fail
    obtain ⟨w1, hw1⟩ : ∃ w1, w.drewN nq = w1 := ⟨_, rfl⟩
    have hb1 : Below w.heap.size w w1 := by rw [← hw1]; exact below_drewN (Below.refl _ _) _
    rw [hw1]
    clear hw1
    have SK := Lib.hid (fun (W' : World) (hB : Below w.heap.size w W') => (show W'.cell? ⟨g, 0, none⟩ = some (.string s) ∧ W'.cell? ⟨g, 3, none⟩ = some (.pointer vl) ∧ W'.cell? ⟨g, 4, none⟩ = some (.pointer vr) from ⟨keepCell hB c0, keepCell hB c3, keepCell hB c4⟩))
    have HB1 := Lib.hid hb1
    clear hb1 c0 c3 c4 hl hr
    go_region_held3 (fun W' => W'.cell? ⟨g, 0, none⟩ = some (.string s) ∧ W'.cell? ⟨g, 3, none⟩ = some (.pointer vl) ∧ W'.cell? ⟨g, 4, none⟩ = some (.pointer vr))
      (first | exact SK.out _ (Hid.out (by assumption)) | exact SK.out _ (Below.drew (Hid.out (by assumption))))
      (first
        | (go_at_call 11; (with_reducible refine (C1.out _ ?hh1).mono ?_); (exact Below.drew HB1.out); rintro e w2 ⟨p1, rfl, i1, l1, l2⟩; have I1 := Lib.hid i1; have L1 := Lib.hid l1; have L2 := Lib.hid l2; have C3 := Lib.hid (join_fit w2 vl p1 a _ s (HA.out.below l2) i1 Fa G1.out f1.text.2); clear i1 l1 l2)
        | (go_at_call 11; refine C3.out.mono ?_; rintro e w4 ⟨p3, rfl, i3, l3⟩; have I3 := Lib.hid i3; have L4 := Lib.hid (L2.out.trans (l3.mono L2.out.size)); clear i3 l3))
    go_wp2_with fail
    go_ret
    exact ⟨_, rfl, ⟨_, I3.out, ⟨Fa.1, f1.text.1, G1.out.1⟩, by simp only [Tr.txt, List.append_assoc]⟩, L4.out⟩
set_option maxRecDepth 100000 in
set_option maxHeartbeats 2000000 in
theorem level_right (w : World) (p q : Option Addr) (T m1 m2 c : Tr) (s t mt : ByteArray) (hT : IsT w (.pointer p) T) (hU : IsT w (.pointer q) (.node (.node m1 mt m2) s c)) (f1 : Fit T) (f2 : Fit (.node (.node m1 mt m2) s c)) (b3 : 1 ≤ t.size) (b : T.txt.length + t.size + (Tr.node (.node m1 mt m2) s c).txt.length ≤ 50000) (hc : c.hgt < (Tr.node m1 mt m2).hgt) (hh : T.hgt + 1 < (Tr.node (.node m1 mt m2) s c).hgt) :
    Calls Tryd.prog 20 #[.pointer p, .string t, .pointer q] w (HasP (T.txt ++ lst t ++ (Tr.node (.node m1 mt m2) s c).txt) w) := by
    have H1 := Lib.hid (high_any w _ _ hT)
    have H2 := Lib.hid (high_any w _ _ hU)
    have hU' : (((Tr.node (.node m1 mt m2) s c).hgt : Nat) : Int) ≤ 100000 := by have := f2.hgt; omega
    obtain ⟨g, vl, vr, e, c0, c1, c2, c3, c4, hl, hr⟩ := hU
    obtain rfl : q = some ⟨g, 0, none⟩ := by injection e
    have H3q := Lib.hid (high_q w _ _ hl)
    have H4q := Lib.hid (high_q w _ _ hr)
    clear e c1 c2
    obtain ⟨g2, vl2, vr2, e2, d0, d1, d2, d3, d4, hl2, hr2⟩ := hl
    obtain rfl : vl = some ⟨g2, 0, none⟩ := by injection e2
    clear e2 d1 d2
    have hh1 : ¬ (((Tr.node (.node m1 mt m2) s c).hgt : Nat) : Int) + 1 < ((T.hgt : Nat) : Int) := by omega
    have hh' : ((T.hgt : Nat) : Int) + 1 < (((Tr.node (.node m1 mt m2) s c).hgt : Nat) : Int) := by omega
    have hc' : ((c.hgt : Nat) : Int) < (((Tr.node m1 mt m2).hgt : Nat) : Int) := by omega
    have Fm := f2.left
    have Fc := f2.right
    have Fm1 := Fm.left
    have Fm2 := Fm.right
    have bc := b
    rw [len_node, len_node] at bc
    have G1 := Lib.hid (fit_node (l := T) (t := t) (r := m1) f1.1 b3 Fm1.1 (by omega))
    have G2 := Lib.hid (fit_node (l := m2) (t := s) (r := c) Fm2.1 f2.text.1 Fc.1 (by omega))
    have C1 := Lib.hid (fun W hW => join_late (t := t) hT hl2 f1 Fm1 (by omega) W hW)
    have C2 := Lib.hid (fun W hW => join_late (t := s) hr2 hr Fm2 Fc f2.text.2 W hW)
    clear hc hh bc
    go_enter Tryd.func20, Tryd.ntmps20
    go_wp2_with fail
    refine H1.out.mono ?_; rintro e w' ⟨rfl, rfl⟩
    go_wp2_with fail
    refine H2.out.mono ?_; rintro e w' ⟨rfl, rfl⟩
    go_wp2_with fail
    refine H2.out.mono ?_; rintro e w' ⟨rfl, rfl⟩
    go_wp2_with fail
    refine H1.out.mono ?_; rintro e w' ⟨rfl, rfl⟩
    go_wp2_with fail
    go_quiet ((go_at_call 18; first | (with_reducible exact Calls.quiet_of_same (H3q.out _)) | (with_reducible exact Calls.quiet_of_same (H4q.out _))))
    go_wp2_with fail
    obtain ⟨w1, hw1⟩ : ∃ w1, w.drewN nq = w1 := ⟨_, rfl⟩
    have hb1 : Below w.heap.size w w1 := by rw [← hw1]; exact below_drewN (Below.refl _ _) _
    rw [hw1]
    clear hw1
    have SK := Lib.hid (fun (W' : World) (hB : Below w.heap.size w W') => (show W'.cell? ⟨g, 0, none⟩ = some (.string s) ∧ W'.cell? ⟨g, 4, none⟩ = some (.pointer vr) ∧ W'.cell? ⟨g2, 0, none⟩ = some (.string mt) ∧ W'.cell? ⟨g2, 3, none⟩ = some (.pointer vl2) ∧ W'.cell? ⟨g2, 4, none⟩ = some (.pointer vr2) from ⟨keepCell hB c0, keepCell hB c4, keepCell hB d0, keepCell hB d3, keepCell hB d4⟩))
    have HB1 := Lib.hid hb1
    clear hb1 c0 c3 c4 d0 d3 d4 hr hl2 hr2
    go_region_held3 (fun W' => W'.cell? ⟨g, 0, none⟩ = some (.string s) ∧ W'.cell? ⟨g, 4, none⟩ = some (.pointer vr) ∧ W'.cell? ⟨g2, 0, none⟩ = some (.string mt) ∧ W'.cell? ⟨g2, 3, none⟩ = some (.pointer vl2) ∧ W'.cell? ⟨g2, 4, none⟩ = some (.pointer vr2))
      (first | exact SK.out _ (Hid.out (by assumption)) | exact SK.out _ (Below.drew (Hid.out (by assumption))))
      (first
        | (go_at_call 11; (with_reducible refine (C1.out _ ?hh1).mono ?_); (exact Below.drew HB1.out); rintro e w2 ⟨p1, rfl, i1, l1, l2⟩; have I1 := Lib.hid i1; have L1 := Lib.hid l1; have L2 := Lib.hid l2;  clear i1 l1 l2)
        | (go_at_call 11; (with_reducible refine (C2.out _ ?hh2).mono ?_); (exact L2.out); rintro e w3 ⟨p2, rfl, i2, l1, l2⟩; have I2 := Lib.hid i2; have J1 := Lib.hid (I1.out.below l1); have L3 := Lib.hid l2; have C3 := Lib.hid (join_fit w3 p1 p2 _ _ mt J1.out i2 G1.out G2.out Fm.text.2); clear i2 l1 l2)
        | (go_at_call 11; refine C3.out.mono ?_; rintro e w4 ⟨p3, rfl, i3, l3⟩; have I3 := Lib.hid i3; have L4 := Lib.hid (L3.out.trans (l3.mono L3.out.size)); clear i3 l3))
    go_wp2_with fail
    go_ret
    exact ⟨_, rfl, ⟨_, I3.out, ⟨G1.out.1, Fm.text.1, G2.out.1⟩, by simp only [Tr.txt, List.append_assoc]⟩, L4.out⟩
set_option maxRecDepth 100000 in
set_option maxHeartbeats 2000000 in
theorem level_right1 (w : World) (p q : Option Addr) (T a c : Tr) (s t : ByteArray) (hT : IsT w (.pointer p) T) (hU : IsT w (.pointer q) (.node a s c)) (f1 : Fit T) (f2 : Fit (.node a s c)) (b3 : 1 ≤ t.size) (b : T.txt.length + t.size + (Tr.node a s c).txt.length ≤ 50000) (hc : ¬ c.hgt < a.hgt) (hh : T.hgt + 1 < (Tr.node a s c).hgt) :
    Calls Tryd.prog 20 #[.pointer p, .string t, .pointer q] w (HasP (T.txt ++ lst t ++ (Tr.node a s c).txt) w) := by
    have H1 := Lib.hid (high_any w _ _ hT)
    have H2 := Lib.hid (high_any w _ _ hU)
    have hU' : (((Tr.node a s c).hgt : Nat) : Int) ≤ 100000 := by have := f2.hgt; omega
    obtain ⟨g, vl, vr, e, c0, c1, c2, c3, c4, hl, hr⟩ := hU
    obtain rfl : q = some ⟨g, 0, none⟩ := by injection e
    have H3q := Lib.hid (high_q w _ _ hl)
    have H4q := Lib.hid (high_q w _ _ hr)
    clear e c1 c2
    have hh1 : ¬ (((Tr.node a s c).hgt : Nat) : Int) + 1 < ((T.hgt : Nat) : Int) := by omega
    have hh' : ((T.hgt : Nat) : Int) + 1 < (((Tr.node a s c).hgt : Nat) : Int) := by omega
    have hc' : decide ((c.hgt : Nat) < (a.hgt : Nat)) = false := decide_eq_false hc
    have Fa := f2.left
    have Fc := f2.right
    have bc := b
    rw [len_node] at bc
    have G1 := Lib.hid (fit_node (l := T) (t := t) (r := a) f1.1 b3 Fa.1 (by omega))
    have C1 := Lib.hid (fun W hW => join_late (t := t) hT hl f1 Fa (by omega) W hW)
    have HA := Lib.hid hr
    clear hc hh bc
    go_enter Tryd.func20, Tryd.ntmps20
    go_wp2_with fail
    refine H1.out.mono ?_; rintro e w' ⟨rfl, rfl⟩
    go_wp2_with fail
    refine H2.out.mono ?_; rintro e w' ⟨rfl, rfl⟩
    go_wp2_with fail
    refine H2.out.mono ?_; rintro e w' ⟨rfl, rfl⟩
    go_wp2_with fail
    refine H1.out.mono ?_; rintro e w' ⟨rfl, rfl⟩
    go_wp2_with fail
    go_quiet ((go_at_call 18; first | (with_reducible exact Calls.quiet_of_same (H3q.out _)) | (with_reducible exact Calls.quiet_of_same (H4q.out _))))
    go_wp2_with fail
    obtain ⟨w1, hw1⟩ : ∃ w1, w.drewN nq = w1 := ⟨_, rfl⟩
    have hb1 : Below w.heap.size w w1 := by rw [← hw1]; exact below_drewN (Below.refl _ _) _
    rw [hw1]
    clear hw1
    have SK := Lib.hid (fun (W' : World) (hB : Below w.heap.size w W') => (show W'.cell? ⟨g, 0, none⟩ = some (.string s) ∧ W'.cell? ⟨g, 3, none⟩ = some (.pointer vl) ∧ W'.cell? ⟨g, 4, none⟩ = some (.pointer vr) from ⟨keepCell hB c0, keepCell hB c3, keepCell hB c4⟩))
    have HB1 := Lib.hid hb1
    clear hb1 c0 c3 c4 hl hr
    go_region_held3 (fun W' => W'.cell? ⟨g, 0, none⟩ = some (.string s) ∧ W'.cell? ⟨g, 3, none⟩ = some (.pointer vl) ∧ W'.cell? ⟨g, 4, none⟩ = some (.pointer vr))
      (first | exact SK.out _ (Hid.out (by assumption)) | exact SK.out _ (Below.drew (Hid.out (by assumption))))
      (first
        | (go_at_call 11; (with_reducible refine (C1.out _ ?hh1).mono ?_); (exact Below.drew HB1.out); rintro e w2 ⟨p1, rfl, i1, l1, l2⟩; have I1 := Lib.hid i1; have L1 := Lib.hid l1; have L2 := Lib.hid l2; have C3 := Lib.hid (join_fit w2 p1 vr _ c s i1 (HA.out.below l2) G1.out Fc f2.text.2); clear i1 l1 l2)
        | (go_at_call 11; refine C3.out.mono ?_; rintro e w4 ⟨p3, rfl, i3, l3⟩; have I3 := Lib.hid i3; have L4 := Lib.hid (L2.out.trans (l3.mono L2.out.size)); clear i3 l3))
    go_wp2_with fail
    go_ret
    exact ⟨_, rfl, ⟨_, I3.out, ⟨G1.out.1, f2.text.1, Fc.1⟩, by simp only [Tr.txt, List.append_assoc]⟩, L4.out⟩
set_option maxHeartbeats 800000 in
theorem level_flat (w : World) (p q : Option Addr) (T U : Tr) (t : ByteArray) (hT : IsT w (.pointer p) T) (hU : IsT w (.pointer q) U) (f1 : Fit T) (f2 : Fit U) (b3 : 1 ≤ t.size) (b : T.txt.length + t.size + U.txt.length ≤ 50000) (h1 : ¬ U.hgt + 1 < T.hgt) (h2 : ¬ T.hgt + 1 < U.hgt) :
    Calls Tryd.prog 20 #[.pointer p, .string t, .pointer q] w (HasP (T.txt ++ lst t ++ U.txt) w) := by
    have H1 := Lib.hid (high_any w _ _ hT)
    have H2 := Lib.hid (high_any w _ _ hU)
    have C1 := Lib.hid (join_fit w p q T U t hT hU f1 f2 (by omega))
    have g1 : ¬ ((U.hgt : Nat) : Int) + 1 < ((T.hgt : Nat) : Int) := by omega
    have g2 : ¬ ((T.hgt : Nat) : Int) + 1 < ((U.hgt : Nat) : Int) := by omega
    have hU' : ((U.hgt : Nat) : Int) ≤ 100000 := by have := f2.hgt; omega
    have hT' : ((T.hgt : Nat) : Int) ≤ 100000 := by have := f1.hgt; omega
    clear h1 h2
    go_enter Tryd.func20, Tryd.ntmps20
    go_wp2_with fail
    refine H1.out.mono ?_; rintro e w' ⟨rfl, rfl⟩
    go_wp2_with fail
    refine H2.out.mono ?_; rintro e w' ⟨rfl, rfl⟩
    go_wp2_with fail
    refine H2.out.mono ?_; rintro e w' ⟨rfl, rfl⟩
    go_wp2_with fail
    refine H1.out.mono ?_; rintro e w' ⟨rfl, rfl⟩
    go_wp2_with fail
    refine C1.out.mono ?_; rintro e w4 ⟨p3, rfl, i3, l3⟩
    have I3 := Lib.hid i3
    have L4 := Lib.hid l3
    clear i3 l3
    go_wp2_with fail
    go_ret
    exact ⟨_, rfl, ⟨_, I3.out, ⟨f1.1, b3, f2.1⟩, by simp only [Tr.txt, List.append_assoc]⟩, L4.out⟩
/-- level: whatever the heights are, the text stands. -/
theorem level_any (w : World) (p q : Option Addr) (T U : Tr) (t : ByteArray) (hT : IsT w (.pointer p) T) (hU : IsT w (.pointer q) U) (f1 : Fit T) (f2 : Fit U) (b3 : 1 ≤ t.size) (b : T.txt.length + t.size + U.txt.length ≤ 50000) :
    Calls Tryd.prog 20 #[.pointer p, .string t, .pointer q] w (HasP (T.txt ++ lst t ++ U.txt) w) := by
  by_cases h1 : U.hgt + 1 < T.hgt
  · cases T with
    | nil => exact absurd h1 (Nat.not_lt_zero _)
    | node a s c =>
      by_cases hc : a.hgt < c.hgt
      · exact level_left w p q a c U s t hT hU f1 f2 b3 b hc h1
      · exact level_left1 w p q a c U s t hT hU f1 f2 b3 b hc h1
  · by_cases h2 : T.hgt + 1 < U.hgt
    · cases U with
      | nil => exact absurd h2 (Nat.not_lt_zero _)
      | node a s c =>
        by_cases hc : c.hgt < a.hgt
        · cases a with
          | nil => exact absurd hc (Nat.not_lt_zero _)
          | node m1 mt m2 => exact level_right w p q T m1 m2 c s t mt hT hU f1 f2 b3 b hc h2
        · exact level_right1 w p q T a c s t hT hU f1 f2 b3 b hc h2
    · exact level_flat w p q T U t hT hU f1 f2 b3 b h1 h2
end Go.Proofs.YtfckhkpheahgaaaDoor.Pc
