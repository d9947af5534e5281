/-
  PROVED HERE: the contract of the laws' sameExpr. Conditions: as each theorem states.
-/
import Derived.Test.YtofmheeiplagjaaGreatDoorTmG
namespace Go.Proofs.YtofmheeiplagjaaGreatDoor.Tm
open Go.RowKit Go.Proofs.YtofmheeiplagjaaGreatDoor.Lex Go.Proofs.YtofmheeiplagjaaGreatDoor.Dig
theorem ExAt.below {w w' : World} (hb : Below w.heap.size w w') : ∀ (x : Ex) (v : Value), ExAt w x v → ExAt w' x v
  | .num _ _, _, ⟨g, e, h⟩ => ⟨g, e, (hb.block g (Array.getElem?_eq_some_iff.1 h).1).trans h⟩
  | .nam _ _, _, ⟨g, e, h⟩ => ⟨g, e, (hb.block g (Array.getElem?_eq_some_iff.1 h).1).trans h⟩
  | .bin _ _ l r, _, ⟨g, a, b, e, h, h1, h2⟩ => ⟨g, a, b, e, (hb.block g (Array.getElem?_eq_some_iff.1 h).1).trans h, ExAt.below hb l a h1, ExAt.below hb r b h2⟩
theorem ExAt.drewN {w : World} {x : Ex} {v : Value} (h : ExAt w x v) (n : Nat) : ExAt (w.drewN n) x v := ExAt.below (below_drewN (Below.refl _ _) n) x v h
def SmP (W : World) (e : Ending) (w' : World) : Prop := e = .returned (.bool true) ∧ ∃ n, w' = W.drewN n
set_option maxRecDepth 100000 in
theorem same_nil (W : World) : Calls Tryz.prog 9 #[.pointer none, .pointer none] W fun e w' => e = .returned (.bool true) ∧ ∃ n, w' = W.drewN n := by
  go_enter Tryz.func9, Tryz.ntmps9
  go_wp2_with fail
  go_ret
  exact ⟨rfl, 0, rfl⟩
theorem box_cells {w : World} {g : Nat} {cs : List Value} {t : TypeId} (h : w.heap[g]? = some (.cells cs.toArray t)) (j : Nat) (hj : j < cs.length) : w.cell? ⟨g, j, none⟩ = some cs[j] := by
  unfold World.cell?
  rw [h]
  simp [hj]
set_option maxRecDepth 100000 in
set_option maxHeartbeats 2000000 in
theorem same_any : ∀ (x : Ex) (a b : Value) (W : World), ExAt W x a → ExAt W x b → Calls Tryz.prog 9 #[a, b] W fun e w' => e = .returned (.bool true) ∧ ∃ n, w' = W.drewN n := by
  intro x
  induction x with
  | num k n =>
    rintro a b W ⟨g, rfl, hg⟩ ⟨g', rfl, hg'⟩
    have C := Lib.hid (fun W => same_nil W)
    have c0 : W.cell? ⟨g, 0, none⟩ = some (.int .i64 1) := box_cells (cs := [_, _, _, _, _, _, _]) hg 0 (by simp)
    have c1 : W.cell? ⟨g, 1, none⟩ = some (.int .i64 (k : Nat)) := box_cells (cs := [_, _, _, _, _, _, _]) hg 1 (by simp)
    have c2 : W.cell? ⟨g, 2, none⟩ = some (.int .i64 n) := box_cells (cs := [_, _, _, _, _, _, _]) hg 2 (by simp)
    have c3 : W.cell? ⟨g, 3, none⟩ = some (.string ⟨#[]⟩) := box_cells (cs := [_, _, _, _, _, _, _]) hg 3 (by simp)
    have c4 : W.cell? ⟨g, 4, none⟩ = some (.string ⟨#[]⟩) := box_cells (cs := [_, _, _, _, _, _, _]) hg 4 (by simp)
    have c5 : W.cell? ⟨g, 5, none⟩ = some (.pointer none) := box_cells (cs := [_, _, _, _, _, _, _]) hg 5 (by simp)
    have c6 : W.cell? ⟨g, 6, none⟩ = some (.pointer none) := box_cells (cs := [_, _, _, _, _, _, _]) hg 6 (by simp)
    have d0 : W.cell? ⟨g', 0, none⟩ = some (.int .i64 1) := box_cells (cs := [_, _, _, _, _, _, _]) hg' 0 (by simp)
    have d1 : W.cell? ⟨g', 1, none⟩ = some (.int .i64 (k : Nat)) := box_cells (cs := [_, _, _, _, _, _, _]) hg' 1 (by simp)
    have d2 : W.cell? ⟨g', 2, none⟩ = some (.int .i64 n) := box_cells (cs := [_, _, _, _, _, _, _]) hg' 2 (by simp)
    have d3 : W.cell? ⟨g', 3, none⟩ = some (.string ⟨#[]⟩) := box_cells (cs := [_, _, _, _, _, _, _]) hg' 3 (by simp)
    have d4 : W.cell? ⟨g', 4, none⟩ = some (.string ⟨#[]⟩) := box_cells (cs := [_, _, _, _, _, _, _]) hg' 4 (by simp)
    have d5 : W.cell? ⟨g', 5, none⟩ = some (.pointer none) := box_cells (cs := [_, _, _, _, _, _, _]) hg' 5 (by simp)
    have d6 : W.cell? ⟨g', 6, none⟩ = some (.pointer none) := box_cells (cs := [_, _, _, _, _, _, _]) hg' 6 (by simp)
    clear hg hg'
    go_enter Tryz.func9, Tryz.ntmps9
    go_wp2_with fail
    go_quiet ((go_at_call 9; exact Calls.quiet_of (C.out _)))
    go_wp2_with fail
    go_ret
    exact ⟨rfl, nq, rfl⟩
  | nam k s =>
    rintro a b W ⟨g, rfl, hg⟩ ⟨g', rfl, hg'⟩
    have C := Lib.hid (fun W => same_nil W)
    have c0 : W.cell? ⟨g, 0, none⟩ = some (.int .i64 2) := box_cells (cs := [_, _, _, _, _, _, _]) hg 0 (by simp)
    have c1 : W.cell? ⟨g, 1, none⟩ = some (.int .i64 (k : Nat)) := box_cells (cs := [_, _, _, _, _, _, _]) hg 1 (by simp)
    have c2 : W.cell? ⟨g, 2, none⟩ = some (.int .i64 0) := box_cells (cs := [_, _, _, _, _, _, _]) hg 2 (by simp)
    have c3 : W.cell? ⟨g, 3, none⟩ = some (.string s) := box_cells (cs := [_, _, _, _, _, _, _]) hg 3 (by simp)
    have c4 : W.cell? ⟨g, 4, none⟩ = some (.string ⟨#[]⟩) := box_cells (cs := [_, _, _, _, _, _, _]) hg 4 (by simp)
    have c5 : W.cell? ⟨g, 5, none⟩ = some (.pointer none) := box_cells (cs := [_, _, _, _, _, _, _]) hg 5 (by simp)
    have c6 : W.cell? ⟨g, 6, none⟩ = some (.pointer none) := box_cells (cs := [_, _, _, _, _, _, _]) hg 6 (by simp)
    have d0 : W.cell? ⟨g', 0, none⟩ = some (.int .i64 2) := box_cells (cs := [_, _, _, _, _, _, _]) hg' 0 (by simp)
    have d1 : W.cell? ⟨g', 1, none⟩ = some (.int .i64 (k : Nat)) := box_cells (cs := [_, _, _, _, _, _, _]) hg' 1 (by simp)
    have d2 : W.cell? ⟨g', 2, none⟩ = some (.int .i64 0) := box_cells (cs := [_, _, _, _, _, _, _]) hg' 2 (by simp)
    have d3 : W.cell? ⟨g', 3, none⟩ = some (.string s) := box_cells (cs := [_, _, _, _, _, _, _]) hg' 3 (by simp)
    have d4 : W.cell? ⟨g', 4, none⟩ = some (.string ⟨#[]⟩) := box_cells (cs := [_, _, _, _, _, _, _]) hg' 4 (by simp)
    have d5 : W.cell? ⟨g', 5, none⟩ = some (.pointer none) := box_cells (cs := [_, _, _, _, _, _, _]) hg' 5 (by simp)
    have d6 : W.cell? ⟨g', 6, none⟩ = some (.pointer none) := box_cells (cs := [_, _, _, _, _, _, _]) hg' 6 (by simp)
    clear hg hg'
    go_enter Tryz.func9, Tryz.ntmps9
    go_wp2_with fail
    go_quiet ((go_at_call 9; exact Calls.quiet_of (C.out _)))
    go_wp2_with fail
    go_ret
    exact ⟨rfl, nq, rfl⟩
  | bin k op l r ihl ihr =>
    rintro a b W ⟨g, a1, a2, rfl, hg, xl, xr⟩ ⟨g', b1, b2, rfl, hg', yl, yr⟩
    have CL := Lib.hid (fun n => ihl a1 b1 (W.drewN n) (xl.drewN n) (yl.drewN n))
    have CR := Lib.hid (fun n => ihr a2 b2 (W.drewN n) (xr.drewN n) (yr.drewN n))
    clear ihl ihr xl xr yl yr
    have c0 : W.cell? ⟨g, 0, none⟩ = some (.int .i64 3) := box_cells (cs := [_, _, _, _, _, _, _]) hg 0 (by simp)
    have c1 : W.cell? ⟨g, 1, none⟩ = some (.int .i64 (k : Nat)) := box_cells (cs := [_, _, _, _, _, _, _]) hg 1 (by simp)
    have c2 : W.cell? ⟨g, 2, none⟩ = some (.int .i64 0) := box_cells (cs := [_, _, _, _, _, _, _]) hg 2 (by simp)
    have c3 : W.cell? ⟨g, 3, none⟩ = some (.string ⟨#[]⟩) := box_cells (cs := [_, _, _, _, _, _, _]) hg 3 (by simp)
    have c4 : W.cell? ⟨g, 4, none⟩ = some (.string op) := box_cells (cs := [_, _, _, _, _, _, _]) hg 4 (by simp)
    have c5 : W.cell? ⟨g, 5, none⟩ = some (a1) := box_cells (cs := [_, _, _, _, _, _, _]) hg 5 (by simp)
    have c6 : W.cell? ⟨g, 6, none⟩ = some (a2) := box_cells (cs := [_, _, _, _, _, _, _]) hg 6 (by simp)
    have d0 : W.cell? ⟨g', 0, none⟩ = some (.int .i64 3) := box_cells (cs := [_, _, _, _, _, _, _]) hg' 0 (by simp)
    have d1 : W.cell? ⟨g', 1, none⟩ = some (.int .i64 (k : Nat)) := box_cells (cs := [_, _, _, _, _, _, _]) hg' 1 (by simp)
    have d2 : W.cell? ⟨g', 2, none⟩ = some (.int .i64 0) := box_cells (cs := [_, _, _, _, _, _, _]) hg' 2 (by simp)
    have d3 : W.cell? ⟨g', 3, none⟩ = some (.string ⟨#[]⟩) := box_cells (cs := [_, _, _, _, _, _, _]) hg' 3 (by simp)
    have d4 : W.cell? ⟨g', 4, none⟩ = some (.string op) := box_cells (cs := [_, _, _, _, _, _, _]) hg' 4 (by simp)
    have d5 : W.cell? ⟨g', 5, none⟩ = some (b1) := box_cells (cs := [_, _, _, _, _, _, _]) hg' 5 (by simp)
    have d6 : W.cell? ⟨g', 6, none⟩ = some (b2) := box_cells (cs := [_, _, _, _, _, _, _]) hg' 6 (by simp)
    clear hg hg'
    go_enter Tryz.func9, Tryz.ntmps9
    go_wp2_with fail
    go_quiet ((go_at_call 9; first | (with_reducible exact Calls.quiet_of (CL.out _)) | (with_reducible exact Calls.quiet_of (CR.out _))))
    go_wp2_with fail
    go_ret
    exact ⟨rfl, nq, rfl⟩
end Go.Proofs.YtofmheeiplagjaaGreatDoor.Tm
