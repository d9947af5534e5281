/-
  PROVED HERE: the contract of the document's Undo. Conditions: as each theorem states.
-/
import Derived.Test.YtijcehimdhbceaaDoorUnJ
namespace Go.Proofs.YtijcehimdhbceaaDoor.Un
open Go.RowKit
/-- A way up, read. -/
theorem DT.upAt {w : World} {g b cap d cap' now t : Nat} {up tm : List Int} (h : DT w g b cap d cap' up tm now t) (n : Nat) (hn : n < up.length) : w.cell? ⟨b, n, none⟩ = some (.int .i64 (up.getD n (-1))) := by
  obtain ⟨gb, eg, hcc⟩ := h.ow1.at_ n (by rw [i64s_len]; exact hn)
  injection eg with eg
  injection eg with eg _ _
  subst eg
  rw [i64s_get] at hcc
  rw [hcc, gdl up n 0 hn, gdl up n (-1) hn]
theorem DT.drewN {w : World} {g b cap d cap' now t : Nat} {up tm : List Int} (h : DT w g b cap d cap' up tm now t) (n : Nat) : DT (w.drewN n) g b cap d cap' up tm now t := ⟨h.c0, h.c1, h.c2, h.c3, h.fz, h.ow1, h.ow2, h.ne1, h.ne2, h.ne3⟩
def DocP (g d : Nat) (w : World) (b cap cap' : Nat) (x : Int) (up tm : List Int) (now t : Nat) (e : Ending) (w' : World) : Prop :=
  e = .returned (.int .i64 x) ∧ DT w' g b cap d cap' up tm now t ∧ Keeps (fun k => k = g ∨ k = d) w w'
set_option maxRecDepth 100000 in
set_option maxHeartbeats 1000000 in
theorem docUndo_no (w : World) (g b cap d cap' : Nat) (up tm : List Int) (now t : Nat) (hD : DT w g b cap d cap' up tm now t) (hn : now < up.length) (hu : up.getD now (-1) < 0) :
    Calls Tryd.prog 18 #[.pointer (some ⟨g, 0, none⟩)] w (DocP g d w b cap cap' 8 up tm now t) := by
  have c0 := hD.c0
  have c1 := hD.c1
  have q1 := hD.upAt now hn
  have i1 : (0 : Int) ≤ (now : Int) := by omega
  have i2 : (now : Int) < (up.length : Int) := by omega
  have DH := fun n => Lib.hid (hD.drewN n)
  have DHH := Lib.hid DH
  clear hD DH
  generalize up.getD now (-1) = u at *
  go_enter Tryd.func18, Tryd.ntmps18
  go_wp2_with fail
  go_quiet (fail)
  go_wp2_with fail
  go_ret
  exact ⟨rfl, (DHH.out _).out, (Keeps.refl _ _).drewN _⟩
set_option maxRecDepth 100000 in
set_option maxHeartbeats 1000000 in
theorem docUndo_yes (w : World) (g b cap d cap' : Nat) (up tm : List Int) (now t p : Nat) (hD : DT w g b cap d cap' up tm now t) (hU : Ups up) (hn : now < up.length) (hl : up.length ≤ 1000) (htl : tm.length = up.length) (ht : t ≤ 1000000) (hu : up.getD now (-1) = (p : Int)) :
    Calls Tryd.prog 18 #[.pointer (some ⟨g, 0, none⟩)] w (DocP g d w b cap cap' 0 up (setAll tm (way up now).reverse ((t + 1 : Nat) : Int)) p (t + 1)) := by
  have c0 := hD.c0
  have c1 := hD.c1
  have q1 := hD.upAt now hn
  rw [hu] at q1
  have i1 : (0 : Int) ≤ (now : Int) := by omega
  have i2 : (now : Int) < (up.length : Int) := by omega
  have i3 : (0 : Int) ≤ (p : Int) := by omega
  have DH := fun n => Lib.hid (hD.drewN n)
  have DHH := Lib.hid DH
  have UH := Lib.hid hU
  clear hD DH hU
  go_enter Tryd.func18, Tryd.ntmps18
  go_wp2_with fail
  go_quiet (fail)
  go_wp2_with fail
  refine (mark_any _ g b cap d cap' up tm now t (DHH.out _).out UH.out hn hl htl ht).mono ?_; rintro e w1 ⟨rfl, hD1, hK1⟩
  have c0 := hD1.c0
  have c1 := hD1.c1
  have f1 := hD1.fz 1
  have q1 := hD1.upAt now hn
  rw [hu] at q1
  have SD := Lib.hid (hD1.setNow p).drew
  have KH := Lib.hid hK1
  clear hD1 hK1
  go_wp2_with fail
  go_region
  go_wp2_with fail
  go_ret
  exact ⟨rfl, SD.out, ((((Keeps.refl (fun k => k = g ∨ k = d) w).drewN _).trans KH.out (fun _ h => .inl h)).setCell (p := ⟨g, 1, none⟩) (.inl (.inl rfl)) _).drew⟩
end Go.Proofs.YtijcehimdhbceaaDoor.Un
