/-
  PROVED HERE: the contract of the document's Go. Conditions: as each theorem states.
-/
import Derived.Test.YtijcehimdhbceaaDoorUnK
import Derived.Test.YtijcehimdhbceaaDoorWin
namespace Go.Proofs.YtijcehimdhbceaaDoor.Un
open Go.RowKit
set_option maxRecDepth 100000 in
set_option maxHeartbeats 1000000 in
theorem docGo_no (w : World) (g b cap d cap' : Nat) (up tm : List Int) (now t : Nat) (n : Int) (hD : DT w g b cap d cap' up tm now t) (hl : up.length ≤ 1000) (hn : n < 0 ∨ (up.length : Int) ≤ n) :
    Calls Tryd.prog 22 #[.pointer (some ⟨g, 0, none⟩), .int .i64 n] w (DocP g d w b cap cap' 2 up tm now t) := by
  have c0 := hD.c0
  have DHH := Lib.hid hD
  clear hD
  go_enter Tryd.func22, Tryd.ntmps22
  go_wp2_with fail
  refine (Ref.within_no n 0 ((up.length : Int) - 1) (by omega) _).mono ?_; rintro e w' ⟨rfl, rfl⟩
  go_wp2_with fail
  go_ret
  exact ⟨rfl, DHH.out, Keeps.refl _ _⟩
set_option maxRecDepth 100000 in
set_option maxHeartbeats 1000000 in
theorem docGo_yes (w : World) (g b cap d cap' : Nat) (up tm : List Int) (now t n : Nat) (hD : DT w g b cap d cap' up tm now t) (hU : Ups up) (hl : up.length ≤ 1000) (hn : n < up.length) (htl : tm.length = up.length) (ht : t ≤ 1000000) :
    Calls Tryd.prog 22 #[.pointer (some ⟨g, 0, none⟩), .int .i64 n] w (DocP g d w b cap cap' 0 up (setAll tm (way up n).reverse ((t + 1 : Nat) : Int)) n (t + 1)) := by
  have c0 := hD.c0
  have c1 := hD.c1
  have f1 := hD.fz 1
  have SD := Lib.hid (hD.setNow n)
  have UH := Lib.hid hU
  clear hD hU
  go_enter Tryd.func22, Tryd.ntmps22
  go_wp2_with fail
  refine (Ref.within_yes n 0 ((up.length : Int) - 1) (by omega) (by omega) _).mono ?_; rintro e w' ⟨rfl, rfl⟩
  go_wp2_with fail
  refine (mark_any _ g b cap d cap' up tm n t SD.out UH.out hn hl htl ht).mono ?_; rintro e w1 ⟨rfl, hD1, hK1⟩
  have DH := Lib.hid hD1
  have KH := Lib.hid hK1
  clear hD1 hK1
  go_wp2_with fail
  go_ret
  exact ⟨rfl, DH.out, ((Keeps.refl (fun k => k = g ∨ k = d) w).setCell (p := ⟨g, 1, none⟩) (.inl (.inl rfl)) _).trans KH.out (fun _ h => .inl h)⟩
end Go.Proofs.YtijcehimdhbceaaDoor.Un
