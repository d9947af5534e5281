/-
  PROVED HERE: the contract of undo's Add. Conditions: as each theorem states.
-/
import Derived.Test.YtijcehimdhbceaaDoorUnI
import Derived.Deep.RegionLaw
namespace Go.Proofs.YtijcehimdhbceaaDoor.Un
open Go.RowKit
/-- The memory behind Add's append and the store of the grown slice. -/
theorem add_mem {w w0 w1 : World} {g b cap now : Nat} {l : List St} {e : St} {v1 : Value} (hD : PT w g b cap l now) (hb : Below w.heap.size w w0) (ho : OwnS w1 v1 (l ++ [e])) (hg : w0.grownBy w1 (some b)) (hat : v1.ownBlock = some b ∨ v1.ownBlock = some w0.heap.size) :
    ∃ b' cap', v1 = .slice (some ⟨b', 0, none⟩) ((l ++ [e]).length) cap' ∧ PT (w1.setCell ⟨g, 0, none⟩ v1) g b' cap' (l ++ [e]) now ∧ Keeps (fun k => k = g ∨ k = b) w (w1.setCell ⟨g, 0, none⟩ v1) ∧ (b' = b ∨ w.heap.size ≤ b') ∧ w1.cell? ⟨g, 0, none⟩ = some (.slice (some ⟨b, 0, none⟩) l.length cap) ∧ w1.frozen? ⟨g, 0, none⟩ = false := by
  have hgs : g < w.heap.size := World.block_lt_of_cell? w _ hD.c0
  have hgb : ¬ (g = b) := fun h => hD.ne h.symm
  have K0 : Keeps (fun k => k = b) w w1 := (Keeps.below hb : Keeps (fun k => k = b) w w0).grown hg (fun k hk => .inl (by injection hk with hk; exact hk.symm))
  have hv : ∃ b' cap', v1 = .slice (some ⟨b', 0, none⟩) ((l ++ [e]).length) cap' := by
    rcases ho.2 with ⟨_, h0⟩ | ⟨b', cap', cur, hv, _⟩
    · simp at h0
    · exact ⟨b', cap', hv⟩
  obtain ⟨b', cap', rfl⟩ := hv
  have hb' : b' = b ∨ w.heap.size ≤ b' := by
    rcases hat with h | h
    · injection h with h; exact .inl h
    · injection h with h
      exact .inr (by have := hb.size; have h' : b' = w0.heap.size := h; omega)
  have hne : b' ≠ g := by rcases hb' with h | h <;> omega
  have K := set_keeps w1 g 0 (.slice (some ⟨b', 0, none⟩) ((l ++ [e]).length) cap')
  have c1 := K0.cell (p := ⟨g, 1, none⟩) hgb hD.c1
  have c0 := K0.cell (p := ⟨g, 0, none⟩) hgb hD.c0
  refine ⟨b', cap', rfl, ⟨World.cell?_setCell_same _ _ _ c0, (g_other _ _ _ _ _ (by decide)).trans c1, fun j => ?_, K.ownsRow (fun j e => by injection e with e; subst e; exact hne) ho, hne⟩, ?_, hb', c0, (World.frozen?_of_block (w := w) (a := ⟨g, 0, none⟩) (K0.block g hgs hgb)).trans (hD.fz 0)⟩
  · rw [frozen?_setCell]
    exact (World.frozen?_of_block (w := w) (a := ⟨g, j, none⟩) (K0.block g hgs hgb)).trans (hD.fz j)
  · exact (K0.mono (fun _ h => .inr h)).setCell (p := ⟨g, 0, none⟩) (.inl (.inl rfl)) _
theorem maps_set (l : List St) (j : Nat) (hj : j < l.length) (v : Int) : (l.set j { l[j] with down := v }).map St.what = l.map St.what ∧ (l.set j { l[j] with down := v }).map St.up = l.map St.up ∧ (l.set j { l[j] with down := v }).map St.down = (l.map St.down).set j v := by
  refine ⟨?_, ?_, by rw [List.map_set]⟩ <;>
  · rw [List.map_set]
    apply List.ext_getElem (by simp)
    intro i h1 h2
    rw [List.getElem_set]
    split
    · rename_i e
      subst e
      simp
    · rfl
def AddP (g b : Nat) (l : List St) (now : Nat) (x : Int) (w : World) (e : Ending) (w' : World) : Prop :=
  ∃ b' cap' l', e = .returned .nilIface ∧ PT w' g b' cap' l' l.length ∧ l'.map St.what = l.map St.what ++ [x] ∧ l'.map St.up = l.map St.up ++ [(now : Int)] ∧ l'.map St.down = (l.map St.down ++ [-1]).set now (l.length : Int) ∧ Keeps (fun k => k = g ∨ k = b) w w' ∧ (b' = b ∨ w.heap.size ≤ b')
set_option maxRecDepth 100000 in
set_option maxHeartbeats 1000000 in
theorem add_yes (w : World) (g b cap : Nat) (l : List St) (now : Nat) (x : Int) (hD : PT w g b cap l now) (hn : now < l.length) (hl : l.length < 200) : Calls Tryd.prog 15 #[.pointer (some ⟨g, 0, none⟩), .int .i64 x] w (AddP g b l now x w) := by
  have c0 := hD.c0
  have c1 := hD.c1
  have f0 := hD.fz 0
  have f1 := hD.fz 1
  have i1 : (l.length : Int) < 200 := by omega
  have hgs : g < w.heap.size := World.block_lt_of_cell? w _ hD.c0
  have hO := Lib.hid hD.own
  have DH := Lib.hid hD
  clear hD
  go_enter Tryd.func15, Tryd.ntmps15
  go_wp2_with fail
  go_region_law ((refine ownS_append_step (by rfl) _ _ (by rfl) _ l (by rfl) (World.ownsRow.alloc hO.out _) _ 1 ⟨x, now, -1⟩ (by rfl) (heap_alloc_new _ _) (by omega) ?_; intro v1 w1 ho1 hg1 hat1; obtain ⟨b', cap', rfl, hP', hK', hb', e0, e1⟩ := add_mem DH.out (Below.drew (Below.refl _ w) |>.alloc (Nat.le_refl _) _) ho1 hg1 hat1; replace hP' := Lib.hid hP'; replace hK' := Lib.hid hK'))
  all_goals
    have hlen : (l ++ [(⟨x, now, -1⟩ : St)]).length = l.length + 1 := by simp
    clear ho1 hg1 hat1 e0 e1 hO c0 c1 f0 f1
    rw [hlen] at hP' hK'
    generalize w1.setCell ⟨g, 0, none⟩ (.slice (some ⟨b', 0, none⟩) (l.length + 1) cap') = wr at *
    generalize hl2 : l ++ [(⟨x, now, -1⟩ : St)] = l2 at *
    have c0 := hP'.out.c0
    have c1 := hP'.out.c1
    have f1 := hP'.out.fz 1
    rw [hlen] at c0
    have q2 := (hP'.out.at_ now (by omega)).2.2.1
    have f2 := (hP'.out.at_ now (by omega)).2.2.2 (now * 3 + 2)
    have hS := hP'.out.setDown now (by omega) l.length
    have c0' := hS.c0
    have c1' := hS.c1
    have f1' := hS.fz 1
    rw [List.length_set, hlen] at c0'
    have j1 : (0 : Int) ≤ (now : Int) := by omega
    have j2 : (now : Int) < (l.length : Int) := by omega
    have hS2 := Lib.hid (hS.setNow l.length).drew
    have hK2 := Lib.hid (((hK'.out.setCell (p := ⟨b', now * 3 + 2, none⟩) (hb'.elim (fun e => .inl (.inr e)) .inr) (.int .i64 l.length)).setCell (p := ⟨g, 1, none⟩) (.inl (.inl rfl)) (.int .i64 l.length)).drew)
    have hM := Lib.hid (maps_set l2 now (by omega) l.length)
    clear hS
    generalize l2[now].down = y at *
    have gb' : g ≠ b' := fun e => hP'.out.ne e.symm
    go_wp2_with fail
    go_region
    go_wp2_with fail
    go_ret
    subst hl2
    refine ⟨b', cap', _, rfl, hS2.out, ?_, ?_, ?_, hK2.out, hb'⟩
    · rw [hM.out.1]; simp
    · rw [hM.out.2.1]; simp
    · rw [hM.out.2.2]; simp
end Go.Proofs.YtijcehimdhbceaaDoor.Un
