/-
  PROVED HERE: the contract of piece's level. Conditions: as each theorem states.
-/
import Derived.Test.YtfckhkpheahgaaaDoorPcB
namespace Go.Proofs.YtfckhkpheahgaaaDoor.Pc
open Go.RowKit
/-- All that is asked of a tree: how long its text is. -/
def Fit (T : Tr) : Prop := T.NE ∧ T.txt.length ≤ 50000
theorem Fit.hgt {T : Tr} (h : Fit T) : T.hgt ≤ 100000 := by have := hgt_le T h.1; have := h.2; omega
theorem Fit.left {l : Tr} {t : ByteArray} {r : Tr} (h : Fit (.node l t r)) : Fit l := ⟨h.1.1, by have := h.2; rw [len_node] at this; omega⟩
theorem Fit.right {l : Tr} {t : ByteArray} {r : Tr} (h : Fit (.node l t r)) : Fit r := ⟨h.1.2.2, by have := h.2; rw [len_node] at this; omega⟩
theorem Fit.text {l : Tr} {t : ByteArray} {r : Tr} (h : Fit (.node l t r)) : 1 ≤ t.size ∧ t.size ≤ 50000 := ⟨h.1.2.1, by have := h.2; rw [len_node] at this; omega⟩
theorem fit_node {l : Tr} {t : ByteArray} {r : Tr} (hl : l.NE) (ht : 1 ≤ t.size) (hr : r.NE) (h : l.txt.length + t.size + r.txt.length ≤ 50000) : Fit (.node l t r) := ⟨⟨hl, ht, hr⟩, by rw [len_node]; omega⟩
theorem join_fit (w : World) (p q : Option Addr) (T U : Tr) (t : ByteArray) (hT : IsT w (.pointer p) T) (hU : IsT w (.pointer q) U) (f1 : Fit T) (f2 : Fit U) (b3 : t.size ≤ 50000) :
    Calls Tryd.prog 11 #[.pointer p, .string t, .pointer q] w (TreeP (.node T t U) w) :=
  join_any w p q T U t hT hU (by have := f1.2; omega) (by have := f2.2; omega) (by omega) f1.hgt f2.hgt
theorem IsT.drewN {w : World} {v : Value} {T : Tr} (h : IsT w v T) (n : Nat) : IsT (w.drewN n) v T := h.below (below_drewN (Below.refl _ _) n)
theorem high_q (w : World) (v : Value) (T : Tr) (h : IsT w v T) (n : Nat) : Calls Tryd.prog 18 #[v] (w.drewN n) fun e w' => e = .returned (.int .i64 (T.hgt : Nat)) ∧ w' = w.drewN n := (high_any (w.drewN n) v T (h.drewN n)).mono fun _ _ ⟨a, b⟩ => ⟨a, b.symm⟩
/-- What a call leaves that was begun in a world behind w. -/
def Late (w : World) (T : Tr) (W : World) (e : Ending) (w' : World) : Prop := ∃ p, e = .returned (.pointer p) ∧ IsT w' (.pointer p) T ∧ Below W.heap.size W w' ∧ Below w.heap.size w w'
theorem join_late {w : World} {p q : Option Addr} {T U : Tr} {t : ByteArray} (hT : IsT w (.pointer p) T) (hU : IsT w (.pointer q) U) (f1 : Fit T) (f2 : Fit U) (b3 : t.size ≤ 50000) (W : World) (hW : Below w.heap.size w W) :
    Calls Tryd.prog 11 #[.pointer p, .string t, .pointer q] W (Late w (.node T t U) W) :=
  (join_fit W p q T U t (hT.below hW) (hU.below hW) f1 f2 b3).mono fun _ _ ⟨a, b, c, d⟩ => ⟨a, b, c, d, hW.trans (d.mono hW.size)⟩
set_option maxRecDepth 100000 in
set_option maxHeartbeats 2000000 in
theorem level_left (w : World) (p q : Option Addr) (a c U : Tr) (s t : ByteArray) (hT : IsT w (.pointer p) (.node a s c)) (hU : IsT w (.pointer q) U) (f1 : Fit (.node a s c)) (f2 : Fit U) (b3 : 1 ≤ t.size) (b : (Tr.node a s c).txt.length + t.size + U.txt.length ≤ 50000) (hc : a.hgt < c.hgt) (hh : U.hgt + 1 < (Tr.node a s c).hgt) :
    Calls Tryd.prog 20 #[.pointer p, .string t, .pointer q] w (HasP ((Tr.node a s c).txt ++ lst t ++ U.txt) w) := by
  have H1 := Lib.hid (high_any w _ _ hT)
  have H2 := Lib.hid (high_any w _ _ hU)
  have HT := Lib.hid hT
  obtain ⟨g, vl, vr, e, c0, c1, c2, c3, c4, hl, hr⟩ := hT
  obtain rfl : p = some ⟨g, 0, none⟩ := by injection e
  have H3q := Lib.hid (high_q w _ _ hl)
  have H4q := Lib.hid (high_q w _ _ hr)
  clear e c1 c2
  cases c with
  | nil => exact absurd hc (Nat.not_lt_zero _)
  | node m1 mt m2 =>
    obtain ⟨g2, vl2, vr2, e2, d0, d1, d2, d3, d4, hl2, hr2⟩ := hr
    obtain rfl : vr = some ⟨g2, 0, none⟩ := by injection e2
    clear e2 d1 d2
    have B1 := Lib.hid hc
    have B2 := Lib.hid hh
    have hh' : ((U.hgt : Nat) : Int) + 1 < (((Tr.node a s (.node m1 mt m2)).hgt : Nat) : Int) := by omega
    have hU' : ((U.hgt : Nat) : Int) ≤ 100000 := by have := f2.hgt; omega
    have hc' : ((a.hgt : Nat) : Int) < (((Tr.node m1 mt m2).hgt : Nat) : Int) := by omega
    clear hc hh
    go_enter Tryd.func20, Tryd.ntmps20
    go_wp2_with fail
    refine H1.out.mono ?_; rintro e w' ⟨rfl, rfl⟩
    go_wp2_with fail
    refine H2.out.mono ?_; rintro e w' ⟨rfl, rfl⟩
    go_wp2_with fail
    go_quiet ((go_at_call 18; first | (with_reducible exact Calls.quiet_of_same (H3q.out _)) | (with_reducible exact Calls.quiet_of_same (H4q.out _))))
    go_wp2_with fail
    obtain ⟨w1, hw1⟩ : ∃ w1, w.drewN nq = w1 := ⟨_, rfl⟩
    have hb1 : Below w.heap.size w w1 := by rw [← hw1]; exact below_drewN (Below.refl _ _) _
    rw [hw1]
    clear hw1
    have SK := Lib.hid (fun (W' : World) (hB : Below w.heap.size w W') => (show W'.cell? ⟨g, 0, none⟩ = some (.string s) ∧ W'.cell? ⟨g, 3, none⟩ = some (.pointer vl) ∧ W'.cell? ⟨g2, 0, none⟩ = some (.string mt) ∧ W'.cell? ⟨g2, 3, none⟩ = some (.pointer vl2) ∧ W'.cell? ⟨g2, 4, none⟩ = some (.pointer vr2) from ⟨keepCell hB c0, keepCell hB c3, keepCell hB d0, keepCell hB d3, keepCell hB d4⟩))
    have F := f1
    have Fa := f1.left
    have Fc := f1.right
    have Fm1 := Fc.left
    have Fm2 := Fc.right
    have C1 := Lib.hid (fun W hW => join_late hl hl2 Fa Fm1 f1.text.2 W hW)
    have C2 := Lib.hid (fun W hW => join_late (t := t) hr2 hU Fm2 f2 (by omega) W hW)
    have G1 := Lib.hid (fit_node (l := a) (t := s) (r := m1) Fa.1 f1.text.1 Fm1.1 (by have := f1.2; rw [len_node, len_node] at this; omega))
    have G2 := Lib.hid (fit_node (l := m2) (t := t) (r := U) Fm2.1 b3 f2.1 (by have := b; rw [len_node, len_node] at this; omega))
    have HB1 := Lib.hid hb1
    clear hb1 c0 c3 c4 d0 d3 d4 hl hl2 hr2
    go_region_held3 (fun W' => W'.cell? ⟨g, 0, none⟩ = some (.string s) ∧ W'.cell? ⟨g, 3, none⟩ = some (.pointer vl) ∧ W'.cell? ⟨g2, 0, none⟩ = some (.string mt) ∧ W'.cell? ⟨g2, 3, none⟩ = some (.pointer vl2) ∧ W'.cell? ⟨g2, 4, none⟩ = some (.pointer vr2))
      (first | exact SK.out _ (Hid.out (by assumption)) | exact SK.out _ (Below.drew (Hid.out (by assumption))))
      (first
        | (go_at_call 11; (with_reducible refine (C1.out _ ?hh1).mono ?_); (exact Below.drew HB1.out); rintro e w2 ⟨p1, rfl, i1, l1, l2⟩; have I1 := Lib.hid i1; have L1 := Lib.hid l1; have L2 := Lib.hid l2; clear i1 l1 l2)
        | (go_at_call 11; (with_reducible refine (C2.out _ ?hh2).mono ?_); (exact L2.out); rintro e w3 ⟨p2, rfl, i2, l1, l2⟩; have I2 := Lib.hid i2; have J1 := Lib.hid (I1.out.below l1); have L3 := Lib.hid l2; have C3 := Lib.hid (join_fit w3 p1 p2 _ _ mt J1.out i2 G1.out G2.out Fc.text.2); clear i2 l1 l2)
        | (go_at_call 11; refine C3.out.mono ?_; rintro e w4 ⟨p3, rfl, i3, l3⟩; have I3 := Lib.hid i3; have L4 := Lib.hid (L3.out.trans (l3.mono L3.out.size)); clear i3 l3))
    go_wp2_with fail
    go_ret
    exact ⟨_, rfl, ⟨_, I3.out, ⟨G1.out.1, Fc.text.1, G2.out.1⟩, by simp only [Tr.txt, List.append_assoc]⟩, L4.out⟩
end Go.Proofs.YtfckhkpheahgaaaDoor.Pc
