/-
  PROVED HERE: the contract of piece's between. Conditions: as each theorem states.
-/
import Derived.Test.YtfckhkpheahgaaaDoorPcD
namespace Go.Proofs.YtfckhkpheahgaaaDoor.Pc
open Go.RowKit
def Tr.nodes : Tr → Nat
  | .nil => 0
  | .node l _ r => l.nodes + 1 + r.nodes
/-- What a call leaves that was begun in a world behind w: some tree of this text. -/
def LateH (w : World) (s : List UInt8) (W : World) (e : Ending) (w' : World) : Prop := ∃ p, e = .returned (.pointer p) ∧ Has w' (.pointer p) s ∧ Below W.heap.size W w' ∧ Below w.heap.size w w'
theorem late_of {w W : World} {f : FuncId} {args : Array Value} {s : List UInt8} (hW : Below w.heap.size w W) (h : Calls Tryd.prog f args W (HasP s W)) : Calls Tryd.prog f args W (LateH w s W) :=
  h.mono fun _ _ ⟨a, b, c, d⟩ => ⟨a, b, c, d, hW.trans (d.mono hW.size)⟩
/-- level, where one of the trees is known by its text alone. -/
theorem level_has {w : World} {p q : Option Addr} {x y : List UInt8} {t : ByteArray} (hT : Has w (.pointer p) x) (hU : Has w (.pointer q) y) (b3 : 1 ≤ t.size) (b : x.length + t.size + y.length ≤ 50000) :
    Calls Tryd.prog 20 #[.pointer p, .string t, .pointer q] w (HasP (x ++ lst t ++ y) w) := by
  obtain ⟨T, h1, h2, rfl⟩ := hT
  obtain ⟨U, k1, k2, rfl⟩ := hU
  exact level_any w p q T U t h1 k1 ⟨h2, by omega⟩ ⟨k2, by omega⟩ b3 b
theorem IsT.has {w : World} {v : Value} {T : Tr} (h : IsT w v T) (hN : T.NE) : Has w v T.txt := ⟨T, h, hN, rfl⟩
set_option maxRecDepth 100000 in
set_option maxHeartbeats 2000000 in
theorem between_rec : ∀ (n : Nat) (w : World) (p q : Option Addr) (T U : Tr) (t : ByteArray), T.nodes + U.nodes ≤ n → IsT w (.pointer p) T → IsT w (.pointer q) U → Fit T → Fit U → 1 ≤ t.size → T.txt.length + t.size + U.txt.length ≤ 50000 →
    Calls Tryd.prog 14 #[.pointer p, .string t, .pointer q] w (HasP (T.txt ++ lst t ++ U.txt) w) := by
  intro n
  induction n with
  | zero =>
    intro w p q T U t hn hT hU f1 f2 b3 b
    obtain rfl : T = .nil := by cases T with
      | nil => rfl
      | node _ _ _ => simp only [Tr.nodes] at hn; omega
    obtain rfl : U = .nil := by cases U with
      | nil => rfl
      | node _ _ _ => simp only [Tr.nodes] at hn; omega
    have H1 := Lib.hid (high_any w _ _ hT)
    have H2 := Lib.hid (high_any w _ _ hU)
    have C1 := Lib.hid (join_fit w p q .nil .nil t hT hU f1 f2 (by omega))
    have e0 : (((Tr.nil).hgt : Nat) : Int) = 0 := rfl
    go_enter Tryd.func14, Tryd.ntmps14
    go_wp2_with fail
    refine H1.out.mono ?_; rintro e w' ⟨rfl, rfl⟩
    go_wp2_with fail
    refine H2.out.mono ?_; rintro e w' ⟨rfl, rfl⟩
    go_wp2_with fail
    refine H2.out.mono ?_; rintro e w' ⟨rfl, rfl⟩
    go_wp2_with fail
    refine H1.out.mono ?_; rintro e w' ⟨rfl, rfl⟩
    go_wp2_with fail
    refine C1.out.mono ?_; rintro e w4 ⟨p3, rfl, i3, l3⟩
    have I3 := Lib.hid i3
    have L4 := Lib.hid l3
    clear i3 l3
    go_wp2_with fail
    go_ret
    exact ⟨_, rfl, ⟨_, I3.out, ⟨f1.1, b3, f2.1⟩, by simp only [Tr.txt, List.append_assoc]⟩, L4.out⟩
  | succ n ih =>
    intro w p q T U t hn hT hU f1 f2 b3 b
    have hU' : ((U.hgt : Nat) : Int) ≤ 100000 := by have := f2.hgt; omega
    have hT' : ((T.hgt : Nat) : Int) ≤ 100000 := by have := f1.hgt; omega
    have H1 := Lib.hid (high_any w _ _ hT)
    have H2 := Lib.hid (high_any w _ _ hU)
    by_cases h1 : U.hgt + 1 < T.hgt
    · cases T with
      | nil => exact absurd h1 (Nat.not_lt_zero _)
      | node a s c =>
        obtain ⟨g, vl, vr, e, c0, c1, c2, c3, c4, hl, hr⟩ := hT
        obtain rfl : p = some ⟨g, 0, none⟩ := by injection e
        clear e c1 c2
        have g1 : ((U.hgt : Nat) : Int) + 1 < (((Tr.node a s c).hgt : Nat) : Int) := by omega
        have Fa := f1.left
        have Fc := f1.right
        have bc := b
        rw [len_node] at bc
        have I := ih
        have C1 := Lib.hid (fun W (hW : Below w.heap.size w W) => late_of hW (I W vr q c U t (by simp only [Tr.nodes] at hn; omega) (hr.below hW) (hU.below hW) Fc f2 b3 (by omega)))
        have HA := Lib.hid hl
        have G1 := Lib.hid bc
        have TX := Lib.hid (len_node a s c)
        clear ih I h1 hn bc
        go_enter Tryd.func14, Tryd.ntmps14
        go_wp2_with fail
        refine H1.out.mono ?_; rintro e w' ⟨rfl, rfl⟩
        go_wp2_with fail
        refine H2.out.mono ?_; rintro e w' ⟨rfl, rfl⟩
        go_wp2_with fail
        have SK := Lib.hid (fun (W' : World) (hB : Below w.heap.size w W') => (show W'.cell? ⟨g, 0, none⟩ = some (.string s) ∧ W'.cell? ⟨g, 3, none⟩ = some (.pointer vl) ∧ W'.cell? ⟨g, 4, none⟩ = some (.pointer vr) from ⟨keepCell hB c0, keepCell hB c3, keepCell hB c4⟩))
        have HB1 := Lib.hid (Below.refl w.heap.size w)
        clear c0 c3 c4 hl hr
        go_region_held3 (fun W' => W'.cell? ⟨g, 0, none⟩ = some (.string s) ∧ W'.cell? ⟨g, 3, none⟩ = some (.pointer vl) ∧ W'.cell? ⟨g, 4, none⟩ = some (.pointer vr))
          (first | exact SK.out _ (Hid.out (by assumption)) | exact SK.out _ (Below.drew (Hid.out (by assumption))))
          (first
            | (go_at_call 14; (with_reducible refine (C1.out _ ?hh1).mono ?_); (exact Below.drew HB1.out); rintro e w2 ⟨p1, rfl, i1, l1, l2⟩; have I1 := Lib.hid i1; have L2 := Lib.hid l2; have C3 := Lib.hid (level_has (t := s) ((HA.out.below l2).has Fa.1) i1 f1.text.1 (by have := G1.out; simp only [List.length_append, lst_len]; omega)); clear i1 l1 l2)
            | (go_at_call 20; refine C3.out.mono ?_; rintro e w4 ⟨p3, rfl, i3, l3⟩; have I3 := Lib.hid i3; have L4 := Lib.hid (L2.out.trans (l3.mono L2.out.size)); clear i3 l3))
        go_wp2_with fail
        go_ret
        refine ⟨_, rfl, ?_, L4.out⟩
        have := I3.out
        simpa only [Tr.txt, List.append_assoc] using this
    · have g1 : ¬ ((U.hgt : Nat) : Int) + 1 < ((T.hgt : Nat) : Int) := by omega
      by_cases h2 : T.hgt + 1 < U.hgt
      · cases U with
        | nil => exact absurd h2 (Nat.not_lt_zero _)
        | node a s c =>
          obtain ⟨g, vl, vr, e, c0, c1, c2, c3, c4, hl, hr⟩ := hU
          obtain rfl : q = some ⟨g, 0, none⟩ := by injection e
          clear e c1 c2
          have g2 : ((T.hgt : Nat) : Int) + 1 < (((Tr.node a s c).hgt : Nat) : Int) := by omega
          have Fa := f2.left
          have Fc := f2.right
          have bc := b
          rw [len_node] at bc
          have I := ih
          have C1 := Lib.hid (fun W (hW : Below w.heap.size w W) => late_of hW (I W p vl T a t (by simp only [Tr.nodes] at hn; omega) (hT.below hW) (hl.below hW) f1 Fa b3 (by omega)))
          have HA := Lib.hid hr
          have G1 := Lib.hid bc
          clear ih I h1 h2 hn bc
          go_enter Tryd.func14, Tryd.ntmps14
          go_wp2_with fail
          refine H1.out.mono ?_; rintro e w' ⟨rfl, rfl⟩
          go_wp2_with fail
          refine H2.out.mono ?_; rintro e w' ⟨rfl, rfl⟩
          go_wp2_with fail
          refine H2.out.mono ?_; rintro e w' ⟨rfl, rfl⟩
          go_wp2_with fail
          refine H1.out.mono ?_; rintro e w' ⟨rfl, rfl⟩
          go_wp2_with fail
          have SK := Lib.hid (fun (W' : World) (hB : Below w.heap.size w W') => (show W'.cell? ⟨g, 0, none⟩ = some (.string s) ∧ W'.cell? ⟨g, 3, none⟩ = some (.pointer vl) ∧ W'.cell? ⟨g, 4, none⟩ = some (.pointer vr) from ⟨keepCell hB c0, keepCell hB c3, keepCell hB c4⟩))
          have HB1 := Lib.hid (Below.refl w.heap.size w)
          clear c0 c3 c4 hl hr
          go_region_held3 (fun W' => W'.cell? ⟨g, 0, none⟩ = some (.string s) ∧ W'.cell? ⟨g, 3, none⟩ = some (.pointer vl) ∧ W'.cell? ⟨g, 4, none⟩ = some (.pointer vr))
            (first | exact SK.out _ (Hid.out (by assumption)) | exact SK.out _ (Below.drew (Hid.out (by assumption))))
            (first
              | (go_at_call 14; (with_reducible refine (C1.out _ ?hh2).mono ?_); (exact Below.drew HB1.out); rintro e w2 ⟨p1, rfl, i1, l1, l2⟩; have I1 := Lib.hid i1; have L2 := Lib.hid l2; have C3 := Lib.hid (level_has (t := s) i1 ((HA.out.below l2).has Fc.1) f2.text.1 (by have := G1.out; simp only [List.length_append, lst_len]; omega)); clear i1 l1 l2)
              | (go_at_call 20; refine C3.out.mono ?_; rintro e w4 ⟨p3, rfl, i3, l3⟩; have I3 := Lib.hid i3; have L4 := Lib.hid (L2.out.trans (l3.mono L2.out.size)); clear i3 l3))
          go_wp2_with fail
          go_ret
          refine ⟨_, rfl, ?_, L4.out⟩
          have := I3.out
          simpa only [Tr.txt, List.append_assoc] using this
      · have g2 : ¬ ((T.hgt : Nat) : Int) + 1 < ((U.hgt : Nat) : Int) := by omega
        have C1 := Lib.hid (join_fit w p q T U t hT hU f1 f2 (by omega))
        clear ih h1 h2 hn
        go_enter Tryd.func14, Tryd.ntmps14
        go_wp2_with fail
        refine H1.out.mono ?_; rintro e w' ⟨rfl, rfl⟩
        go_wp2_with fail
        refine H2.out.mono ?_; rintro e w' ⟨rfl, rfl⟩
        go_wp2_with fail
        refine H2.out.mono ?_; rintro e w' ⟨rfl, rfl⟩
        go_wp2_with fail
        refine H1.out.mono ?_; rintro e w' ⟨rfl, rfl⟩
        go_wp2_with fail
        refine C1.out.mono ?_; rintro e w4 ⟨p3, rfl, i3, l3⟩
        have I3 := Lib.hid i3
        have L4 := Lib.hid l3
        clear i3 l3
        go_wp2_with fail
        go_ret
        exact ⟨_, rfl, ⟨_, I3.out, ⟨f1.1, b3, f2.1⟩, by simp only [Tr.txt, List.append_assoc]⟩, L4.out⟩
theorem between_has {w : World} {p q : Option Addr} {x y : List UInt8} {t : ByteArray} (hT : Has w (.pointer p) x) (hU : Has w (.pointer q) y) (b3 : 1 ≤ t.size) (b : x.length + t.size + y.length ≤ 50000) :
    Calls Tryd.prog 14 #[.pointer p, .string t, .pointer q] w (HasP (x ++ lst t ++ y) w) := by
  obtain ⟨T, h1, h2, rfl⟩ := hT
  obtain ⟨U, k1, k2, rfl⟩ := hU
  exact between_rec _ w p q T U t (Nat.le_refl _) h1 k1 ⟨h2, by omega⟩ ⟨k2, by omega⟩ b3 b
end Go.Proofs.YtfckhkpheahgaaaDoor.Pc
