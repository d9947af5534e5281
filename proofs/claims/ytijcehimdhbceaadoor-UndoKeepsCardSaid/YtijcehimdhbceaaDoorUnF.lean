/-
  PROVED HERE: the contracts of undo's Len, At, Now, Undo, Redo. Conditions: as each theorem states.
-/
import Derived.Test.YtijcehimdhbceaaDoorUnE
namespace Go.Proofs.YtijcehimdhbceaaDoor.Un
open Go.RowKit
theorem PT.drewN {w : World} {g b cap now : Nat} {l : List St} (h : PT w g b cap l now) (n : Nat) : PT (w.drewN n) g b cap l now := ⟨h.c0, h.c1, h.fz, h.own, h.ne⟩
theorem PT.drew {w : World} {g b cap now : Nat} {l : List St} (h : PT w g b cap l now) : PT w.drew g b cap l now := ⟨h.c0, h.c1, h.fz, h.own, h.ne⟩
theorem PT.setNow {w : World} {g b cap now : Nat} {l : List St} (h : PT w g b cap l now) (x : Nat) : PT (w.setCell ⟨g, 1, none⟩ (.int .i64 x)) g b cap l x := by
  have K := set_keeps w g 1 (.int .i64 x)
  exact ⟨(g_other _ _ _ _ _ (by decide)).trans h.c0, World.cell?_setCell_same _ _ _ h.c1, fun j => by rw [frozen?_setCell]; exact h.fz j, K.ownsRow (fun j e => by injection e with e; subst e; exact h.ne) h.own, h.ne⟩
theorem PT.setDown {w : World} {g b cap now : Nat} {l : List St} (h : PT w g b cap l now) (j : Nat) (hj : j < l.length) (x : Int) : PT (w.setCell ⟨b, j * 3 + 2, none⟩ (.int .i64 x)) g b cap (l.set j { l[j] with down := x }) now := by
  have K := set_keeps w b (j * 3 + 2) (.int .i64 x)
  have hgb : ¬ (g = b) := fun e => h.ne e.symm
  refine ⟨?_, K.cell (p := ⟨g, 1, none⟩) hgb h.c1, fun j => by rw [frozen?_setCell]; exact h.fz j, ?_, h.ne⟩
  · rw [List.length_set]
    exact K.cell (p := ⟨g, 0, none⟩) hgb h.c0
  · have := (World.ownsRow.stored h.own (j * 3 + 2) (.int .i64 x)).1
    rw [stCells_set l j hj] at this
    unfold OwnS
    rw [List.length_set]
    exact this
theorem PT.at_ {w : World} {g b cap now : Nat} {l : List St} (h : PT w g b cap l now) (j : Nat) (hj : j < l.length) : w.cell? ⟨b, j * 3, none⟩ = some (.int .i64 l[j].what) ∧ w.cell? ⟨b, j * 3 + 1, none⟩ = some (.int .i64 l[j].up) ∧ w.cell? ⟨b, j * 3 + 2, none⟩ = some (.int .i64 l[j].down) ∧ ∀ i, w.frozen? ⟨b, i, none⟩ = false := by
  refine ⟨?_, ?_, ?_, fun i => World.ownsRow.frozenAt h.own i⟩
  · rw [World.ownsRow.cellAt h.own (j * 3) (by omega)]
    have := stCells_get l j 0 hj (by decide)
    rw [Nat.add_zero] at this
    rw [this]; rfl
  · rw [World.ownsRow.cellAt h.own (j * 3 + 1) (by omega), stCells_get l j 1 hj (by decide)]; rfl
  · rw [World.ownsRow.cellAt h.own (j * 3 + 2) (by omega), stCells_get l j 2 hj (by decide)]; rfl
def UnP (g b cap : Nat) (w : World) (x : Value) (l' : List St) (now' : Nat) (e : Ending) (w' : World) : Prop := e = .returned x ∧ PT w' g b cap l' now' ∧ Keeps (fun k => k = g ∨ k = b) w w'
set_option maxRecDepth 100000 in
theorem len_any (w : World) (g b cap : Nat) (l : List St) (now : Nat) (hD : PT w g b cap l now) : Calls Tryd.prog 13 #[.pointer (some ⟨g, 0, none⟩)] w fun e w' => e = .returned (.int .i64 l.length) ∧ w = w' := by
  have c0 := hD.c0
  clear hD
  go_enter Tryd.func13, Tryd.ntmps13
  go_wp2_with fail
  go_ret
  exact ⟨rfl, rfl⟩
set_option maxRecDepth 100000 in
theorem at_any (w : World) (g b cap : Nat) (l : List St) (now : Nat) (hD : PT w g b cap l now) : Calls Tryd.prog 23 #[.pointer (some ⟨g, 0, none⟩)] w fun e w' => e = .returned (.int .i64 now) ∧ w = w' := by
  have c1 := hD.c1
  clear hD
  go_enter Tryd.func23, Tryd.ntmps23
  go_wp2_with fail
  go_ret
  exact ⟨rfl, rfl⟩
set_option maxRecDepth 100000 in
set_option maxHeartbeats 1000000 in
theorem now_any (w : World) (g b cap : Nat) (l : List St) (now : Nat) (hD : PT w g b cap l now) (hn : now < l.length) : Calls Tryd.prog 24 #[.pointer (some ⟨g, 0, none⟩)] w fun e w' => e = .returned (.int .i64 l[now].what) ∧ Below w.heap.size w w' := by
  have c0 := hD.c0
  have c1 := hD.c1
  have e0 := (hD.at_ now hn).1
  have i1 : (0 : Int) ≤ (now : Int) := by omega
  have i2 : (now : Int) < (l.length : Int) := by omega
  generalize l[now].what = x at *
  clear hD
  go_enter Tryd.func24, Tryd.ntmps24
  go_wp2_with fail
  go_quiet (fail)
  go_wp2_with fail
  go_ret
  exact ⟨rfl, below_drewN (Below.refl _ _) _⟩
set_option maxRecDepth 100000 in
set_option maxHeartbeats 1000000 in
theorem undo_no (w : World) (g b cap : Nat) (l : List St) (now : Nat) (hD : PT w g b cap l now) (hn : now < l.length) (hu : l[now].up < 0) : Calls Tryd.prog 17 #[.pointer (some ⟨g, 0, none⟩)] w (UnP g b cap w (.iface 24 (.int .i64 8)) l now) := by
  have c0 := hD.c0
  have c1 := hD.c1
  have e1 := (hD.at_ now hn).2.1
  have i1 : (0 : Int) ≤ (now : Int) := by omega
  have i2 : (now : Int) < (l.length : Int) := by omega
  have DH := Lib.hid hD
  generalize l[now].up = x at *
  clear hD
  go_enter Tryd.func17, Tryd.ntmps17
  go_wp2_with fail
  go_quiet (fail)
  go_wp2_with fail
  go_ret
  exact ⟨rfl, DH.out.drewN _, (Keeps.refl _ _).drewN _⟩
set_option maxRecDepth 100000 in
set_option maxHeartbeats 1000000 in
theorem undo_yes (w : World) (g b cap : Nat) (l : List St) (now p : Nat) (hD : PT w g b cap l now) (hn : now < l.length) (hu : l[now].up = p) (hp : p < l.length) : Calls Tryd.prog 17 #[.pointer (some ⟨g, 0, none⟩)] w (UnP g b cap w .nilIface (l.set p { l[p] with down := now }) p) := by
  have c0 := hD.c0
  have c1 := hD.c1
  have e1 := (hD.at_ now hn).2.1
  rw [hu] at e1
  have e2 := (hD.at_ p hp).2.2.1
  have f2 := (hD.at_ p hp).2.2.2 (p * 3 + 2)
  have f1 := hD.fz 1
  have i1 : (0 : Int) ≤ (now : Int) := by omega
  have i2 : (now : Int) < (l.length : Int) := by omega
  have i3 : (0 : Int) ≤ (p : Int) := by omega
  have i4 : (p : Int) < (l.length : Int) := by omega
  have gb : g ≠ b := fun e => hD.ne e.symm
  have SD := fun n => Lib.hid (((hD.drewN n).setDown p hp now).drew.setNow p)
  have SDH := Lib.hid SD
  have hDH := Lib.hid hD
  generalize l[p].down = y at *
  clear hD hu SD
  go_enter Tryd.func17, Tryd.ntmps17
  go_wp2_with fail
  go_quiet (fail)
  go_wp2_with fail
  go_region
  go_wp2_with fail
  go_ret
  exact ⟨rfl, (SDH.out nq).out, ((((Keeps.refl _ w).drewN nq).setCell (p := ⟨b, p * 3 + 2, none⟩) (.inl (.inr rfl)) _).drew).setCell (p := ⟨g, 1, none⟩) (.inl (.inl rfl)) _⟩
set_option maxRecDepth 100000 in
set_option maxHeartbeats 1000000 in
theorem redo_no (w : World) (g b cap : Nat) (l : List St) (now : Nat) (hD : PT w g b cap l now) (hn : now < l.length) (hu : l[now].down < 0) : Calls Tryd.prog 19 #[.pointer (some ⟨g, 0, none⟩)] w (UnP g b cap w (.iface 24 (.int .i64 8)) l now) := by
  have c0 := hD.c0
  have c1 := hD.c1
  have e1 := (hD.at_ now hn).2.2.1
  have i1 : (0 : Int) ≤ (now : Int) := by omega
  have i2 : (now : Int) < (l.length : Int) := by omega
  have DH := Lib.hid hD
  generalize l[now].down = x at *
  clear hD
  go_enter Tryd.func19, Tryd.ntmps19
  go_wp2_with fail
  go_quiet (fail)
  go_wp2_with fail
  go_ret
  exact ⟨rfl, DH.out.drewN _, (Keeps.refl _ _).drewN _⟩
set_option maxRecDepth 100000 in
set_option maxHeartbeats 1000000 in
theorem redo_yes (w : World) (g b cap : Nat) (l : List St) (now p : Nat) (hD : PT w g b cap l now) (hn : now < l.length) (hu : l[now].down = p) : Calls Tryd.prog 19 #[.pointer (some ⟨g, 0, none⟩)] w (UnP g b cap w .nilIface l p) := by
  have c0 := hD.c0
  have c1 := hD.c1
  have e1 := (hD.at_ now hn).2.2.1
  rw [hu] at e1
  have f1 := hD.fz 1
  have i1 : (0 : Int) ≤ (now : Int) := by omega
  have i2 : (now : Int) < (l.length : Int) := by omega
  have i3 : (0 : Int) ≤ (p : Int) := by omega
  have SDH := Lib.hid (fun n => (hD.drewN n).setNow p)
  clear hD hu
  go_enter Tryd.func19, Tryd.ntmps19
  go_wp2_with fail
  go_quiet (fail)
  go_wp2_with fail
  go_ret
  exact ⟨rfl, SDH.out nq, ((Keeps.refl _ w).drewN nq).setCell (p := ⟨g, 1, none⟩) (.inl (.inl rfl)) _⟩
end Go.Proofs.YtijcehimdhbceaaDoor.Un
