/-
  PROVED HERE: the contracts of piece's first and both. Conditions: as each theorem states.
-/
import Derived.Test.YtfckhkpheahgaaaDoorPcE
namespace Go.Proofs.YtfckhkpheahgaaaDoor.Pc
open Go.RowKit
def FirstP (x : List UInt8) (w : World) (e : Ending) (w' : World) : Prop := ∃ (t : ByteArray) (p : Option Addr) (y : List UInt8), e = .returned (.tuple #[.string t, .pointer p]) ∧ 1 ≤ t.size ∧ lst t ++ y = x ∧ Has w' (.pointer p) y ∧ Below w.heap.size w w'
set_option maxRecDepth 100000 in
set_option maxHeartbeats 2000000 in
theorem first_rec : ∀ (T : Tr) (w : World) (p : Option Addr), T ≠ .nil → IsT w (.pointer p) T → Fit T → Calls Tryd.prog 19 #[.pointer p] w (FirstP T.txt w) := by
  intro T
  induction T with
  | nil => intro w p h; exact absurd rfl h
  | node a s c iha ihc =>
    intro w p _ hT f1
    clear ihc
    obtain ⟨g, vl, vr, e, c0, c1, c2, c3, c4, hl, hr⟩ := hT
    obtain rfl : p = some ⟨g, 0, none⟩ := by injection e
    clear e c1 c2
    have Fa := f1.left
    have Fc := f1.right
    have HC := Lib.hid hr
    cases a with
    | nil =>
      obtain rfl : vl = none := by injection hl
      clear iha
      go_enter Tryd.func19, Tryd.ntmps19
      go_wp2_with fail
      go_quiet (fail)
      go_wp2_with fail
      go_ret2
      exact ⟨s, vr, c.txt, rfl, f1.text.1, rfl, (HC.out.drewN _).has Fc.1, below_drewN (Below.refl _ _) _⟩
    | node a1 at1 a2 =>
      have C1 := Lib.hid (iha w vl (fun h => by cases h) hl Fa)
      obtain ⟨g2, vl2, vr2, e2, -⟩ := hl
      obtain rfl : vl = some ⟨g2, 0, none⟩ := by injection e2
      clear iha e2
      go_enter Tryd.func19, Tryd.ntmps19
      go_wp2_with fail
      refine C1.out.mono ?_; rintro e w1 ⟨t1, p1, y1, rfl, ht1, hy1, hp1, hb1⟩
      have d0 := keepCell hb1 c0
      have d3 := keepCell hb1 c3
      have d4 := keepCell hb1 c4
      have hyl : t1.size + y1.length = (Tr.node a1 at1 a2).txt.length := by rw [← hy1, List.length_append, lst_len]
      have ft := f1.2
      rw [len_node] at ft
      have C2 := Lib.hid (fun W (hW : Below w1.heap.size w1 W) => late_of hW (level_has (t := s) (hp1.below hW) (((HC.out.below hb1).below hW).has Fc.1) f1.text.1 (by omega)))
      have HY := Lib.hid hy1
      have B1 := Lib.hid hb1
      clear hb1 hy1 hp1 c0 c3 c4 hyl ft
      go_wp2_with fail
      go_region_held3 (fun W' => W'.cell? ⟨g, 0, none⟩ = some (.string s) ∧ W'.cell? ⟨g, 4, none⟩ = some (.pointer vr))
        (first | exact ⟨d0, d4⟩ | exact ⟨keepCell L2.out d0, keepCell L2.out d4⟩)
        (first
          | (go_at_call 20; (with_reducible refine (C2.out _ ?hh1).mono ?_); (exact Below.drew (Below.refl _ _)); rintro e w4 ⟨p3, rfl, i3, l3, l4⟩; have I3 := Lib.hid i3; have L2 := Lib.hid l4; have L4 := Lib.hid (B1.out.trans (l4.mono B1.out.size)); clear i3 l3 l4))
      go_wp2_with fail
      go_ret2
      refine ⟨t1, p3, _, rfl, ht1, ?_, I3.out, L4.out⟩
      rw [txt_node, ← HY.out]
      simp only [List.append_assoc]
theorem Has.nil_of {w : World} {s : List UInt8} (h : Has w (.pointer none) s) : s = [] := by
  obtain ⟨T, h1, h2, rfl⟩ := h
  cases T with
  | nil => rfl
  | node a t c => obtain ⟨b, vl, vr, e, -⟩ := h1; cases e
theorem first_has {w : World} {b : Nat} {x : List UInt8} (h : Has w (.pointer (some ⟨b, 0, none⟩)) x) (hx : x.length ≤ 50000) : Calls Tryd.prog 19 #[.pointer (some ⟨b, 0, none⟩)] w (FirstP x w) := by
  obtain ⟨T, h1, h2, rfl⟩ := h
  exact first_rec T w _ (fun e => by subst e; cases h1) h1 ⟨h2, hx⟩
theorem Has.some_of {w : World} {p : Addr} {s : List UInt8} (h : Has w (.pointer (some p)) s) : ∃ b, p = ⟨b, 0, none⟩ := by
  obtain ⟨T, h1, h2, rfl⟩ := h
  cases T with
  | nil => cases h1
  | node a t c => obtain ⟨b, vl, vr, e, -⟩ := h1; injection e with e; injection e with e; exact ⟨b, e⟩
set_option maxHeartbeats 800000 in
theorem both_has {w : World} {p q : Option Addr} {x y : List UInt8} (hT : Has w (.pointer p) x) (hU : Has w (.pointer q) y) (b : x.length + y.length ≤ 50000) :
    Calls Tryd.prog 13 #[.pointer p, .pointer q] w (HasP (x ++ y) w) := by
  rcases p with _ | p
  · obtain rfl := hT.nil_of
    have HU := Lib.hid hU
    clear hT hU
    go_enter Tryd.func13, Tryd.ntmps13
    go_wp2_with fail
    go_ret
    exact ⟨_, rfl, HU.out, Below.refl _ _⟩
  · obtain ⟨g, rfl⟩ := hT.some_of
    rcases q with _ | q
    · obtain rfl := hU.nil_of
      have HT := Lib.hid hT
      clear hT hU
      go_enter Tryd.func13, Tryd.ntmps13
      go_wp2_with fail
      go_ret
      exact ⟨_, rfl, by rw [List.append_nil]; exact HT.out, Below.refl _ _⟩
    · obtain ⟨g2, rfl⟩ := hU.some_of
      have C1 := Lib.hid (first_has hU (by omega))
      have HT := Lib.hid hT
      clear hT hU
      go_enter Tryd.func13, Tryd.ntmps13
      go_wp2_with fail
      refine C1.out.mono ?_; rintro e w1 ⟨t1, p1, y1, rfl, ht1, hy1, hp1, hb1⟩
      have hyl : t1.size + y1.length = y.length := by rw [← hy1, List.length_append, lst_len]
      have C2 := Lib.hid (between_has (t := t1) (HT.out.below hb1) hp1 ht1 (by omega))
      have HY := Lib.hid hy1
      have B1 := Lib.hid hb1
      clear hb1 hy1 hp1 hyl
      go_wp2_with fail
      refine C2.out.mono ?_; rintro e w4 ⟨p3, rfl, i3, l3⟩
      have I3 := Lib.hid i3
      have L4 := Lib.hid (B1.out.trans (l3.mono B1.out.size))
      clear i3 l3
      go_wp2_with fail
      go_ret
      refine ⟨_, rfl, ?_, L4.out⟩
      rw [← HY.out, ← List.append_assoc]
      exact I3.out
end Go.Proofs.YtfckhkpheahgaaaDoor.Pc
