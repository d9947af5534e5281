/-
  PROVED HERE: the contract of piece's cut. Conditions: as each theorem states.
-/
import Derived.Test.YtfckhkpheahgaaaDoorPcF
namespace Go.Proofs.YtfckhkpheahgaaaDoor.Pc
open Go.RowKit
theorem lst_ext (t : ByteArray) (i j : Nat) : lst (t.extract i j) = ((lst t).take j).drop i := by
  unfold lst
  rw [ByteArray.data_extract, Array.toList_extract]
  simp [List.extract, List.drop_take]
def CutP (x : List UInt8) (k : Nat) (w : World) (e : Ending) (w' : World) : Prop := ∃ (p q : Option Addr), e = .returned (.tuple #[.pointer p, .pointer q]) ∧ Has w' (.pointer p) (x.take k) ∧ Has w' (.pointer q) (x.drop k) ∧ Below w.heap.size w w'
set_option maxRecDepth 100000 in
set_option maxHeartbeats 2000000 in
theorem cut_rec : ∀ (T : Tr) (w : World) (p : Option Addr) (k : Nat), IsT w (.pointer p) T → Fit T → k ≤ T.txt.length → Calls Tryd.prog 12 #[.pointer p, .int .i64 (k : Int)] w (CutP T.txt k w) := by
  intro T
  induction T with
  | nil =>
    intro w p k hT f1 hk
    obtain rfl : p = none := by injection hT
    obtain rfl : k = 0 := by simpa [Tr.txt] using hk
    go_enter Tryd.func12, Tryd.ntmps12
    go_wp2_with fail
    go_ret2
    exact ⟨_, _, rfl, has_nil _, has_nil _, Below.refl _ _⟩
  | node a t c iha ihc =>
    intro w p k hT f1 hk
    obtain ⟨g, vl, vr, e, c0, c1, c2, c3, c4, hl, hr⟩ := hT
    obtain rfl : p = some ⟨g, 0, none⟩ := by injection e
    clear e c1 c2
    have Fa := f1.left
    have Fc := f1.right
    have HA := Lib.hid hl
    have HC := Lib.hid hr
    have hlen := f1.2
    rw [len_node] at hk hlen
    have S1 := Lib.hid (size_any w _ _ hl)
    have hal : a.txt.length ≤ 50000 := Fa.2
    have htl : t.size ≤ 50000 := f1.text.2
    by_cases h1 : k ≤ a.txt.length
    · have C1 := Lib.hid (fun W (hW : Below w.heap.size w W) => iha W vl k (hl.below hW) Fa h1)
      clear iha ihc
      generalize hn : a.txt.length = n at *
      have HN := Lib.hid hn
      clear hn
      have h1' : (k : Int) ≤ (n : Int) := by omega
      go_enter Tryd.func12, Tryd.ntmps12
      go_wp2_with fail
      refine S1.out.mono ?_; rintro e w' ⟨rfl, rfl⟩
      go_wp2_with fail
      refine (C1.out _ (Below.refl _ _)).mono ?_; rintro e w1 ⟨p1, q1, rfl, hp1, hq1, hb1⟩
      have d0 := keepCell hb1 c0
      have d4 := keepCell hb1 c4
      have hP := Lib.hid hp1
      have C2 := Lib.hid (fun W (hW : Below w1.heap.size w1 W) => late_of hW (between_has (t := t) (hq1.below hW) (((HC.out.below hb1).below hW).has Fc.1) f1.text.1 (by rw [List.length_drop]; have := HN.out; omega)))
      have B1 := Lib.hid hb1
      clear hb1 hp1 hq1 c0 c3 c4 hl hr
      go_wp2_with fail
      go_region_held3 (fun W' => W'.cell? ⟨g, 0, none⟩ = some (.string t) ∧ W'.cell? ⟨g, 4, none⟩ = some (.pointer vr))
        (first | exact ⟨d0, d4⟩ | exact ⟨keepCell L2.out d0, keepCell L2.out d4⟩)
        (first
          | (go_at_call 14; (with_reducible refine (C2.out _ ?hh1).mono ?_); (exact Below.drew (Below.refl _ _)); rintro e w4 ⟨p3, rfl, i3, l3, l4⟩; have I3 := Lib.hid i3; have L2 := Lib.hid l4; have P4 := Lib.hid (hP.out.below l4); have L4 := Lib.hid (B1.out.trans (l4.mono B1.out.size)); clear i3 l3 l4))
      go_wp2_with fail
      go_ret2
      have h1n : k ≤ a.txt.length := by have := HN.out; omega
      refine ⟨p1, p3, rfl, ?_, ?_, L4.out⟩
      · rw [txt_node, List.append_assoc, List.take_append_of_le_length h1n]; exact P4.out
      · rw [txt_node, List.append_assoc, List.drop_append_of_le_length h1n, ← List.append_assoc]; exact I3.out
    · by_cases h2 : a.txt.length + t.size ≤ k
      · have C1 := Lib.hid (fun W (hW : Below w.heap.size w W) => ihc W vr (k - a.txt.length - t.size) (hr.below hW) Fc (by omega))
        clear iha ihc
        generalize hn : a.txt.length = n at *
        have HN := Lib.hid hn
        clear hn
        have h1' : ¬ (k : Int) ≤ (n : Int) := by omega
        have h1d : decide ((k : Int) ≤ (n : Int)) = false := decide_eq_false h1'
        have h2' : (n : Int) + (t.size : Int) ≤ (k : Int) := by omega
        have hs1 : IntKind.i64.wrap ((k : Int) - (n : Int)) = (k : Int) - (n : Int) := IntWalk.i64_in _ (by omega)
        have hs2 : IntKind.i64.wrap ((k : Int) - (n : Int) - (t.size : Int)) = ((k - n - t.size : Nat) : Int) := by rw [IntWalk.i64_in _ (by omega)]; omega
        go_enter Tryd.func12, Tryd.ntmps12
        go_wp2_with fail
        refine S1.out.mono ?_; rintro e w' ⟨rfl, rfl⟩
        go_wp2_with fail
        go_region_held3 (fun W' => W'.cell? ⟨g, 0, none⟩ = some (.string t) ∧ W'.cell? ⟨g, 4, none⟩ = some (.pointer vr))
          (first | exact ⟨c0, c4⟩ | exact ⟨keepCell B1.out c0, keepCell B1.out c4⟩)
          (first
            | (go_at_call 12; (with_reducible refine (C1.out _ ?hh2).mono ?_); (exact Below.drew (Below.refl _ _)); rintro e w1 ⟨p1, q1, rfl, hp1, hq1, hb1⟩; have hP := Lib.hid hp1; have hQ := Lib.hid hq1; have B1 := Lib.hid (show Below w.heap.size w w1 from ((Below.refl w.heap.size w).drew).trans hb1); clear hb1 hp1 hq1))
        go_wp2_with fail
        have d0 := keepCell B1.out c0
        have d3 := keepCell B1.out c3
        have C2 := Lib.hid (fun W (hW : Below w1.heap.size w1 W) => late_of hW (between_has (t := t) (((HA.out.below B1.out).below hW).has Fa.1) (hP.out.below hW) f1.text.1 (by rw [List.length_take]; have := HN.out; omega)))
        clear c0 c3 c4 hl hr hs1 hs2
        go_region_held3 (fun W' => W'.cell? ⟨g, 0, none⟩ = some (.string t) ∧ W'.cell? ⟨g, 3, none⟩ = some (.pointer vl))
          (first | exact ⟨d0, d3⟩ | exact ⟨keepCell L2.out d0, keepCell L2.out d3⟩)
          (first
            | (go_at_call 14; (with_reducible refine (C2.out _ ?hh3).mono ?_); (exact Below.drew (Below.refl _ _)); rintro e w4 ⟨p3, rfl, i3, l3, l4⟩; have I3 := Lib.hid i3; have L2 := Lib.hid l4; have Q4 := Lib.hid (hQ.out.below l4); have L4 := Lib.hid (B1.out.trans (l4.mono B1.out.size)); clear i3 l3 l4))
        go_wp2_with fail
        go_ret2
        have e1 : (Tr.node a t c).txt = (a.txt ++ lst t) ++ c.txt := rfl
        have e2 : (a.txt ++ lst t).length = n + t.size := by rw [List.length_append, lst_len, HN.out]
        refine ⟨p3, q1, rfl, ?_, ?_, L4.out⟩
        · rw [e1, List.take_append, e2, List.take_of_length_le (by omega), show k - (n + t.size) = k - n - t.size by omega]; exact I3.out
        · rw [e1, List.drop_append, e2, List.drop_of_length_le (by omega), show k - (n + t.size) = k - n - t.size by omega, List.nil_append]; exact Q4.out
      · clear iha ihc
        generalize hn : a.txt.length = n at *
        have HN := Lib.hid hn
        clear hn
        have h1' : ¬ (k : Int) ≤ (n : Int) := by omega
        have h1d : decide ((k : Int) ≤ (n : Int)) = false := decide_eq_false h1'
        have h2' : ¬ (n : Int) + (t.size : Int) ≤ (k : Int) := by omega
        have h2d : decide ((n : Int) + (t.size : Int) ≤ (k : Int)) = false := decide_eq_false h2'
        obtain ⟨j, hj⟩ : ∃ j, k = n + j := ⟨k - n, by omega⟩
        subst hj
        have hj1 : 1 ≤ j := by omega
        have hj2 : j < t.size := by omega
        have hs1 : IntKind.i64.wrap ((n : Int) + (j : Int) - (n : Int)) = (j : Int) := by rw [IntWalk.i64_in _ (by omega)]; omega
        have j0 : (0 : Int) ≤ (j : Int) := by omega
        have j1 : (j : Int) ≤ (t.size : Int) := by omega
        have z1 : (t.extract 0 j).size = j := by rw [ByteArray.size_extract]; omega
        have z2 : (t.extract j t.size).size = t.size - j := by rw [ByteArray.size_extract]; omega
        have Z1 := Lib.hid z1
        have Z2 := Lib.hid z2
        have C1 := Lib.hid (fun W (hW : Below w.heap.size w W) => late_of hW (between_has (t := t.extract 0 j) ((hl.below hW).has Fa.1) (has_nil W) (by omega) (by rw [z1]; simp; have := HN.out; omega)))
        have C2 := Lib.hid (fun W (hW : Below w.heap.size w W) => late_of hW (between_has (t := t.extract j t.size) (has_nil W) ((hr.below hW).has Fc.1) (by omega) (by rw [z2]; simp; omega)))
        clear z1 z2 h1 h2
        go_enter Tryd.func12, Tryd.ntmps12
        go_wp2_with fail
        refine S1.out.mono ?_; rintro e w' ⟨rfl, rfl⟩
        go_wp2_with fail
        go_quiet (fail)
        go_wp2_with fail
        obtain ⟨w1, hw1⟩ : ∃ w1, w.drewN nq = w1 := ⟨_, rfl⟩
        have hb1 : Below w.heap.size w w1 := by rw [← hw1]; exact below_drewN (Below.refl _ _) _
        rw [hw1]
        clear hw1
        have SK := Lib.hid (fun (W' : World) (hB : Below w.heap.size w W') => (show W'.cell? ⟨g, 3, none⟩ = some (.pointer vl) ∧ W'.cell? ⟨g, 4, none⟩ = some (.pointer vr) from ⟨keepCell hB c3, keepCell hB c4⟩))
        have HB1 := Lib.hid hb1
        clear hb1 c0 c3 c4 hl hr hs1
        go_region_held3 (fun W' => W'.cell? ⟨g, 3, none⟩ = some (.pointer vl) ∧ W'.cell? ⟨g, 4, none⟩ = some (.pointer vr))
          (first | exact SK.out _ (Hid.out (by assumption)) | exact SK.out _ (Below.drew (Hid.out (by assumption))))
          (first
            | (go_at_call 14; (with_reducible refine (C1.out _ ?hh4).mono ?_); (exact Below.drew HB1.out); rintro e w2 ⟨p1, rfl, i1, l1, l2⟩; have I1 := Lib.hid i1; have L1 := Lib.hid l1; have L2 := Lib.hid l2; clear i1 l1 l2)
            | (go_at_call 14; (with_reducible refine (C2.out _ ?hh5).mono ?_); (exact L2.out); rintro e w3 ⟨p2, rfl, i2, l1, l2⟩; have I2 := Lib.hid i2; have J1 := Lib.hid (I1.out.below l1); have L3 := Lib.hid l2; clear i2 l1 l2))
        go_wp2_with fail
        go_ret2
        have e1 : (Tr.node a t c).txt = a.txt ++ (lst t ++ c.txt) := by rw [txt_node, List.append_assoc]
        refine ⟨p1, p2, rfl, ?_, ?_, L3.out⟩
        · have := J1.out
          rw [List.append_nil, lst_ext] at this
          rw [e1, List.take_append, HN.out, List.take_of_length_le (by rw [HN.out]; omega), show n + j - n = j by omega, List.take_append_of_le_length (by rw [lst_len]; omega)]
          simpa using this
        · have := I2.out
          rw [List.nil_append, lst_ext] at this
          rw [e1, List.drop_append, HN.out, List.drop_of_length_le (by rw [HN.out]; omega), show n + j - n = j by omega, List.nil_append, List.drop_append_of_le_length (by rw [lst_len]; omega)]
          rw [List.take_of_length_le (by rw [lst_len]; omega)] at this
          exact this
theorem cut_has {w : World} {p : Option Addr} {x : List UInt8} (k : Nat) (h : Has w (.pointer p) x) (hx : x.length ≤ 50000) (hk : k ≤ x.length) : Calls Tryd.prog 12 #[.pointer p, .int .i64 (k : Int)] w (CutP x k w) := by
  obtain ⟨T, h1, h2, rfl⟩ := h
  exact cut_rec T w p k h1 ⟨h2, hx⟩ hk
end Go.Proofs.YtfckhkpheahgaaaDoor.Pc
