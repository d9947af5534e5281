/-
  PROVED HERE: the contract of the document's Add, when there is room. Conditions: as each theorem states.
-/
import Derived.Test.YtijcehimdhbceaaDoorUnN
import Derived.Test.YtijcehimdhbceaaDoorOrd
import Derived.Deep.RegionLaw
import Derived.Deep.DeepCutAuto
namespace Go.Proofs.YtijcehimdhbceaaDoor.Un
open Go.RowKit
/-- Both lists have grown by one, and both cells hold them. -/
def Grown2 (w : World) (g b d : Nat) (up tm : List Int) (now t : Nat) (w' : World) : Prop :=
  ∃ b' cap1 d' cap2, DT w' g b' cap1 d' cap2 (up ++ [(now : Int)]) (tm ++ [0]) now t ∧ Keeps (fun k => k = g ∨ k = b ∨ k = d) w w' ∧ (b' = b ∨ w.heap.size ≤ b') ∧ (d' = d ∨ w.heap.size ≤ d')
theorem own_slice {w : World} {v : Value} {l : List Int} {x : Int} (h : Own w 0 3 v (i64s (l ++ [x]))) : ∃ b cap, v = .slice (some ⟨b, 0, none⟩) (l ++ [x]).length cap := by
  rcases h.form with ⟨_, h0⟩ | ⟨b, cap, e, _⟩
  · exact absurd (congrArg List.length h0) (by simp [i64s])
  · exact ⟨b, cap, by rw [e, i64s_len]⟩
theorem own_slice1 {w : World} {v : Value} {l : List Int} {x : Int} (h : Own w 0 3 v (i64s (l ++ [x]))) : ∃ b cap, v = .slice (some ⟨b, 0, none⟩) (l.length + 1) cap := by
  obtain ⟨b, cap, e⟩ := own_slice h
  exact ⟨b, cap, by rw [e, List.length_append, List.length_singleton]⟩
/-- The cells of a tree's head, where only its lists' blocks may have turned. -/
theorem DT.head {w w1 : World} {g b cap d cap' now t : Nat} {up tm : List Int} (h : DT w g b cap d cap' up tm now t) (k : Keeps (fun k => k = b ∨ k = d) w w1) :
    w1.cell? ⟨g, 0, none⟩ = some (.slice (some ⟨b, 0, none⟩) up.length cap) ∧ w1.cell? ⟨g, 1, none⟩ = some (.int .i64 now) ∧ w1.cell? ⟨g, 2, none⟩ = some (.slice (some ⟨d, 0, none⟩) tm.length cap') ∧ w1.cell? ⟨g, 3, none⟩ = some (.int .i64 t) ∧ (∀ j, w1.frozen? ⟨g, j, none⟩ = false) ∧ g < w1.heap.size := by
  have hn : ¬ (g = b ∨ g = d) := fun e => e.elim (fun e => h.ne1 e.symm) (fun e => h.ne2 e.symm)
  have hg := World.block_lt_of_cell? w _ h.c0
  exact ⟨k.cell (p := ⟨g, 0, none⟩) hn h.c0, k.cell (p := ⟨g, 1, none⟩) hn h.c1, k.cell (p := ⟨g, 2, none⟩) hn h.c2, k.cell (p := ⟨g, 3, none⟩) hn h.c3, fun j => (World.frozen?_of_block (w := w) (a := ⟨g, j, none⟩) (k.block g hg hn)).trans (h.fz j), Nat.lt_of_lt_of_le hg k.size⟩
theorem grown2 {w w2 : World} {g b cap d cap' now t : Nat} {up tm : List Int} {v1 v2 : Value} (h : DT w g b cap d cap' up tm now t) (k : Keeps (fun k => k = b ∨ k = d) w w2)
    (o1 : Own w2 0 3 v1 (i64s (up ++ [(now : Int)]))) (o2 : Own w2 0 3 v2 (i64s (tm ++ [(0 : Int)])))
    (a1 : v1.ownBlock = some b ∨ ∃ k, v1.ownBlock = some k ∧ w.heap.size ≤ k) (a2 : v2.ownBlock = some d ∨ ∃ k, v2.ownBlock = some k ∧ w.heap.size ≤ k) (hne : v1.ownBlock ≠ v2.ownBlock) :
    Grown2 w g b d up tm now t ((w2.setCell ⟨g, 0, none⟩ v1).setCell ⟨g, 2, none⟩ v2) ∧ Grown2 w g b d up tm now t ((w2.setCell ⟨g, 2, none⟩ v2).setCell ⟨g, 0, none⟩ v1) := by
  obtain ⟨b', cap1, rfl⟩ := own_slice o1
  obtain ⟨d', cap2, rfl⟩ := own_slice o2
  have hgs : g < w.heap.size := World.block_lt_of_cell? w _ h.c0
  have hb' : b' = b ∨ w.heap.size ≤ b' := by
    rcases a1 with h | ⟨k, h, hk⟩
    · injection h with h; exact .inl h
    · injection h with h; exact .inr (by have h' : b' = k := h; omega)
  have hd' : d' = d ∨ w.heap.size ≤ d' := by
    rcases a2 with h | ⟨k, h, hk⟩
    · injection h with h; exact .inl h
    · injection h with h; exact .inr (by have h' : d' = k := h; omega)
  have n1 : b' ≠ g := by
    rcases hb' with e | e
    · rw [e]; exact h.ne1
    · omega
  have n2 : d' ≠ g := by
    rcases hd' with e | e
    · rw [e]; exact h.ne2
    · omega
  have n3 : b' ≠ d' := fun e => hne (by rw [e]; rfl)
  obtain ⟨c0, c1, c2, c3, fz, hg2⟩ := h.head k
  have K0 : Keeps (fun k => k = g ∨ k = b ∨ k = d) w w2 := k.mono (fun _ x => .inr x)
  refine ⟨⟨b', cap1, d', cap2, ?_, (K0.setCell (p := ⟨g, 0, none⟩) (.inl (.inl rfl)) _).setCell (p := ⟨g, 2, none⟩) (.inl (.inl rfl)) _, hb', hd'⟩, ⟨b', cap1, d', cap2, ?_, (K0.setCell (p := ⟨g, 2, none⟩) (.inl (.inl rfl)) _).setCell (p := ⟨g, 0, none⟩) (.inl (.inl rfl)) _, hb', hd'⟩⟩
  · have K1 := set_keeps w2 g 0 (.slice (some ⟨b', 0, none⟩) (up ++ [(now : Int)]).length cap1)
    have K2 := set_keeps (w2.setCell ⟨g, 0, none⟩ (.slice (some ⟨b', 0, none⟩) (up ++ [(now : Int)]).length cap1)) g 2 (.slice (some ⟨d', 0, none⟩) (tm ++ [(0 : Int)]).length cap2)
    refine ⟨(g_other _ _ _ _ _ (by decide)).trans (World.cell?_setCell_same _ _ _ c0), (g_other _ _ _ _ _ (by decide)).trans ((g_other _ _ _ _ _ (by decide)).trans c1), World.cell?_setCell_same _ _ _ ((g_other _ _ _ _ _ (by decide)).trans c2), (g_other _ _ _ _ _ (by decide)).trans ((g_other _ _ _ _ _ (by decide)).trans c3), fun j => by rw [frozen?_setCell, frozen?_setCell]; exact fz j, K2.ownsRow (fun j e => by injection e with e; subst e; exact n1) (K1.ownsRow (fun j e => by injection e with e; subst e; exact n1) o1), K2.ownsRow (fun j e => by injection e with e; subst e; exact n2) (K1.ownsRow (fun j e => by injection e with e; subst e; exact n2) o2), n1, n2, n3⟩
  · have K1 := set_keeps w2 g 2 (.slice (some ⟨d', 0, none⟩) (tm ++ [(0 : Int)]).length cap2)
    have K2 := set_keeps (w2.setCell ⟨g, 2, none⟩ (.slice (some ⟨d', 0, none⟩) (tm ++ [(0 : Int)]).length cap2)) g 0 (.slice (some ⟨b', 0, none⟩) (up ++ [(now : Int)]).length cap1)
    refine ⟨World.cell?_setCell_same _ _ _ ((g_other _ _ _ _ _ (by decide)).trans c0), (g_other _ _ _ _ _ (by decide)).trans ((g_other _ _ _ _ _ (by decide)).trans c1), (g_other _ _ _ _ _ (by decide)).trans (World.cell?_setCell_same _ _ _ c2), (g_other _ _ _ _ _ (by decide)).trans ((g_other _ _ _ _ _ (by decide)).trans c3), fun j => by rw [frozen?_setCell, frozen?_setCell]; exact fz j, K2.ownsRow (fun j e => by injection e with e; subst e; exact n1) (K1.ownsRow (fun j e => by injection e with e; subst e; exact n1) o1), K2.ownsRow (fun j e => by injection e with e; subst e; exact n2) (K1.ownsRow (fun j e => by injection e with e; subst e; exact n2) o2), n1, n2, n3⟩
/-- The first append, from a world in which the lists' blocks stand as they did. -/
theorem first_app {w w0 w1 : World} {b : Nat} {v : Value} (k0 : Keeps (fun _ => False) w w0) (hb : b < w.heap.size) (hg : w0.grownBy w1 (some b)) (ha : v.ownBlock = some b ∨ v.ownBlock = some w0.heap.size) :
    Keeps (fun k => k = b) w w1 ∧ (v.ownBlock = some b ∨ ∃ k, v.ownBlock = some k ∧ w.heap.size ≤ k) ∧ ∀ k x, w0.cell? ⟨k, 0, none⟩ = some x → w.heap.size ≤ k → w1.cell? ⟨k, 0, none⟩ = some x :=
  ⟨(k0.mono (fun _ x => x.elim)).grown hg (fun k hk => .inl (by injection hk with hk; exact hk.symm)), ha.imp id (fun h => ⟨_, h, k0.size⟩), fun k x hc hk => (World.cell?_of_block (w := w0) (a := ⟨k, 0, none⟩) (hg.block k (World.block_lt_of_cell? w0 _ hc) (fun e => by injection e with e; omega))).trans hc⟩
/-- The second one. -/
theorem second_app {w w1 w2 w3 : World} {b d : Nat} {l : List Int} {x : Int} {v u : Value} (k1 : Keeps (fun k => k = b) w w1) (k2 : Keeps (fun _ => False) w1 w2) (hd : d < w.heap.size) (hbd : b ≠ d)
    (o1 : Own w1 0 3 v (i64s (l ++ [x]))) (a1 : v.ownBlock = some b ∨ ∃ k, v.ownBlock = some k ∧ w.heap.size ≤ k)
    (hg : w2.grownBy w3 (some d)) (ha : u.ownBlock = some d ∨ u.ownBlock = some w2.heap.size) :
    Keeps (fun k => k = b ∨ k = d) w w3 ∧ Own w3 0 3 v (i64s (l ++ [x])) ∧ (u.ownBlock = some d ∨ ∃ k, u.ownBlock = some k ∧ w.heap.size ≤ k) ∧ v.ownBlock ≠ u.ownBlock := by
  obtain ⟨b', cap, rfl⟩ := own_slice o1
  have hlt := (o1.lt b' rfl).2
  have hb' : b' = b ∨ w.heap.size ≤ b' := by
    rcases a1 with h | ⟨k, h, hk⟩
    · injection h with h; exact .inl h
    · injection h with h; exact .inr (by have h' : b' = k := h; omega)
  have hnd : b' ≠ d := by rcases hb' with e | e <;> omega
  have s1 := k1.size
  have s2 := k2.size
  refine ⟨((k1.mono (fun _ x => .inl x)).trans k2 (fun _ x => x.elim)).grown hg (fun k hk => .inl (by injection hk with hk; exact .inr hk.symm)), ?_, ha.imp id (fun h => ⟨_, h, by omega⟩), ?_⟩
  · exact Own.keep (k2.ownsRow (fun _ _ x => x) o1) hg (.inr (fun e => by injection e with e; exact hnd e))
  · intro e
    rcases ha with h | h
    · rw [h] at e; injection e with e; exact hnd e
    · rw [h] at e; injection e with e; have e' : b' = w2.heap.size := e; omega
theorem cell_1 (w : World) (x : Value) : ((w.alloc (.cells #[x] 3)).drew).cell? ⟨w.heap.size, 0, none⟩ = some x := new_cell w x _
theorem cell_12 (w : World) (x y : Value) : (((w.alloc (.cells #[x] 3)).alloc (.cells #[y] 3)).drew).cell? ⟨w.heap.size, 0, none⟩ = some x :=
  (World.cell?_alloc_lt (w.alloc (.cells #[x] 3)) (.cells #[y] 3) ⟨w.heap.size, 0, none⟩ (by simp)).trans (new_cell w x _)
theorem cell_2 (w : World) (x y : Value) : (((w.alloc (.cells #[x] 3)).alloc (.cells #[y] 3)).drew).cell? ⟨w.heap.size + 1, 0, none⟩ = some y := by
  have h := new_cell (w.alloc (.cells #[x] 3)) y 3
  rw [show (w.alloc (.cells #[x] 3)).heap.size = w.heap.size + 1 from alloc_sz _ _] at h
  exact h
theorem news_one {w : World} {g : Nat} {x : Value} (h : w.cell? ⟨g, 0, none⟩ = some x) : ∀ (j : Nat) u, [x][j]? = some u → w.cell? ((⟨g, 0, none⟩ : Addr).add j) = some u := by
  intro j u hj
  rcases j with _ | j
  · simp at hj
    subst hj
    rw [Addr.add_mid]
    exact h
  · simp at hj
def AddDP (g b d : Nat) (w : World) (up tm : List Int) (now t : Nat) (e : Ending) (w' : World) : Prop :=
  ∃ b' cap1 d' cap2, e = .returned (.int .i64 0) ∧ DT w' g b' cap1 d' cap2 (up ++ [(now : Int)]) (setAll (tm ++ [0]) (way (up ++ [(now : Int)]) up.length).reverse ((t + 1 : Nat) : Int)) up.length (t + 1) ∧ Keeps (fun k => k = g ∨ k = b ∨ k = d) w w' ∧ (b' = b ∨ w.heap.size ≤ b') ∧ (d' = d ∨ w.heap.size ≤ d')
set_option maxRecDepth 100000 in
set_option maxHeartbeats 8000000 in
theorem docAdd_yes (w : World) (g b cap d cap' : Nat) (up tm : List Int) (now t : Nat) (hD : DT w g b cap d cap' up tm now t) (hU : Ups up) (hn : now < up.length) (hl : up.length < 200) (htl : tm.length = up.length) (ht : t ≤ 100000) :
    Calls Tryd.prog 16 #[.pointer (some ⟨g, 0, none⟩)] w (AddDP g b d w up tm now t) := by
  have c0 := hD.c0
  have c1 := hD.c1
  have c2 := hD.c2
  have f0 := hD.fz 0
  have f2 := hD.fz 2
  have i1 : (up.length : Int) < 200 := by omega
  have hgs : g < w.heap.size := World.block_lt_of_cell? w _ hD.c0
  have hds : d < w.heap.size := (hD.ow2.lt d rfl).2
  have hbs : b < w.heap.size := (hD.ow1.lt b rfl).2
  have hbd := hD.ne3
  have DH := Lib.hid hD
  have UH := Lib.hid hU
  have TL := Lib.hid htl
  clear hD hU htl
  go_enter Tryd.func16, Tryd.ntmps16
  go_wp2_with fail
  go_cut [] (fun wx => Hid (Grown2 w g b d up tm now t wx))
  case first =>
    have hS0 : Hid (w.drew.cell? ⟨g, 0, none⟩ = some (.slice (some ⟨b, 0, none⟩) up.length cap) ∧ w.drew.cell? ⟨g, 1, none⟩ = some (.int .i64 now) ∧ w.drew.cell? ⟨g, 2, none⟩ = some (.slice (some ⟨d, 0, none⟩) tm.length cap')) := Lib.hid ⟨c0, c1, c2⟩
    refine wp_region_L (fun w' => w'.cell? ⟨g, 0, none⟩ = some (.slice (some ⟨b, 0, none⟩) up.length cap) ∧ w'.cell? ⟨g, 1, none⟩ = some (.int .i64 now) ∧ w'.cell? ⟨g, 2, none⟩ = some (.slice (some ⟨d, 0, none⟩) tm.length cap')) [5, 9, 15] (by kernel_rfl) ?_
    refine wpAnyL_take (i := 0) (v := .pointer (some ⟨g, 0, none⟩)) rfl (by kernel_rfl) (by kernel_rfl) (by kernel_rfl) (fun _ _ _ h => h) (Or.inl ⟨by rfl, ?_⟩) ?_
    · intro w' _; go_simp; try with_reducible rfl
    simp only [Act.put, List.setIfInBounds_toArray, List.set_cons_zero, List.set_cons_succ]
    refine wpAnyL_take (i := 1) (v := .pointer (some ⟨g, 0, none⟩)) rfl (by kernel_rfl) (by kernel_rfl) (by kernel_rfl) (fun _ _ _ h => h) (Or.inl ⟨by rfl, ?_⟩) ?_
    · intro w' _; go_simp; try with_reducible rfl
    simp only [Act.put, List.setIfInBounds_toArray, List.set_cons_zero, List.set_cons_succ]
    refine wpAnyL_take (i := 2) (v := .pointer (some ⟨g, 0, none⟩)) rfl (by kernel_rfl) (by kernel_rfl) (by kernel_rfl) (fun _ _ _ h => h) (Or.inl ⟨by rfl, ?_⟩) ?_
    · intro w' _; go_simp; try with_reducible rfl
    simp only [Act.put, List.setIfInBounds_toArray, List.set_cons_zero, List.set_cons_succ]
    refine wpAnyL_take (i := 3) (v := .pointer (some ⟨g, 0, none⟩)) rfl (by kernel_rfl) (by kernel_rfl) (by kernel_rfl) (fun _ _ _ h => h) (Or.inl ⟨by rfl, ?_⟩) ?_
    · intro w' _; go_simp; try with_reducible rfl
    simp only [Act.put, List.setIfInBounds_toArray, List.set_cons_zero, List.set_cons_succ]
    refine wpAnyL_take (i := 4) (v := .pointer (some ⟨g, 0, none⟩)) rfl (by kernel_rfl) (by kernel_rfl) (by kernel_rfl) (fun _ _ _ h => h) (Or.inl ⟨by rfl, ?_⟩) ?_
    · intro w' _; go_simp; try with_reducible rfl
    simp only [Act.put, List.setIfInBounds_toArray, List.set_cons_zero, List.set_cons_succ]
    refine wpAnyL_load (i := 5) (v := .slice (some ⟨b, 0, none⟩) up.length cap) rfl (by kernel_rfl) (by kernel_rfl) (by kernel_rfl) (by rfl) (fun _ _ _ h => h) (Or.inl ⟨by rfl, ?_⟩) hS0.out ?_
    · intro w' hSw; obtain ⟨s0, s1, s2⟩ := hSw; go_simp; try with_reducible rfl
    simp only [Act.put, List.setIfInBounds_toArray, List.set_cons_zero, List.set_cons_succ]
    refine wpAnyL_take (i := 6) (v := .pointer (some ⟨g, 0, none⟩)) rfl (by kernel_rfl) (by kernel_rfl) (by kernel_rfl) (fun _ _ _ h => h) (Or.inl ⟨by rfl, ?_⟩) ?_
    · intro w' _; go_simp; try with_reducible rfl
    simp only [Act.put, List.setIfInBounds_toArray, List.set_cons_zero, List.set_cons_succ]
    refine wpAnyL_take (i := 7) (v := .pointer (some ⟨g, 0, none⟩)) rfl (by kernel_rfl) (by kernel_rfl) (by kernel_rfl) (fun _ _ _ h => h) (Or.inl ⟨by rfl, ?_⟩) ?_
    · intro w' _; go_simp; try with_reducible rfl
    simp only [Act.put, List.setIfInBounds_toArray, List.set_cons_zero, List.set_cons_succ]
    refine wpAnyL_take (i := 8) (v := .pointer (some ⟨g, 1, none⟩)) rfl (by kernel_rfl) (by kernel_rfl) (by kernel_rfl) (fun _ _ _ h => h) (Or.inl ⟨by rfl, ?_⟩) ?_
    · intro w' _; go_simp; try with_reducible rfl
    simp only [Act.put, List.setIfInBounds_toArray, List.set_cons_zero, List.set_cons_succ]
    refine wpAnyL_load (i := 9) (v := .int .i64 now) rfl (by kernel_rfl) (by kernel_rfl) (by kernel_rfl) (by rfl) (fun _ _ _ h => h) (Or.inl ⟨by rfl, ?_⟩) hS0.out ?_
    · intro w' hSw; obtain ⟨s0, s1, s2⟩ := hSw; go_simp; try with_reducible rfl
    simp only [Act.put, List.setIfInBounds_toArray, List.set_cons_zero, List.set_cons_succ]
    refine wpAnyL_take (i := 12) (v := .pointer (some ⟨g, 0, none⟩)) rfl (by kernel_rfl) (by kernel_rfl) (by kernel_rfl) (fun _ _ _ h => h) (Or.inl ⟨by rfl, ?_⟩) ?_
    · intro w' _; go_simp; try with_reducible rfl
    simp only [Act.put, List.setIfInBounds_toArray, List.set_cons_zero, List.set_cons_succ]
    refine wpAnyL_take (i := 13) (v := .pointer (some ⟨g, 0, none⟩)) rfl (by kernel_rfl) (by kernel_rfl) (by kernel_rfl) (fun _ _ _ h => h) (Or.inl ⟨by rfl, ?_⟩) ?_
    · intro w' _; go_simp; try with_reducible rfl
    simp only [Act.put, List.setIfInBounds_toArray, List.set_cons_zero, List.set_cons_succ]
    refine wpAnyL_take (i := 14) (v := .pointer (some ⟨g, 2, none⟩)) rfl (by kernel_rfl) (by kernel_rfl) (by kernel_rfl) (fun _ _ _ h => h) (Or.inl ⟨by rfl, ?_⟩) ?_
    · intro w' _; go_simp; try with_reducible rfl
    simp only [Act.put, List.setIfInBounds_toArray, List.set_cons_zero, List.set_cons_succ]
    refine wpAnyL_load (i := 15) (v := .slice (some ⟨d, 0, none⟩) tm.length cap') rfl (by kernel_rfl) (by kernel_rfl) (by kernel_rfl) (by rfl) (fun _ _ _ h => h) (Or.inl ⟨by rfl, ?_⟩) hS0.out ?_
    · intro w' hSw; obtain ⟨s0, s1, s2⟩ := hSw; go_simp; try with_reducible rfl
    simp only [Act.put, List.setIfInBounds_toArray, List.set_cons_zero, List.set_cons_succ]
    refine wpAnyL_ready (rs := [10, 16]) (by kernel_rfl) (by simp) ?_
    refine AllReadyL.cons rfl (fun K hK => ?_) ?_
    · go_simp
      refine hK.out _ _ (fun hs => ⟨(World.cell?_alloc_lt _ _ _ (World.block_lt_of_cell? _ _ hs.1)).trans hs.1, (World.cell?_alloc_lt _ _ _ (World.block_lt_of_cell? _ _ hs.2.1)).trans hs.2.1, (World.cell?_alloc_lt _ _ _ (World.block_lt_of_cell? _ _ hs.2.2)).trans hs.2.2⟩) ?_
      clear hK K
      refine wpAnyL_ready (rs := [11, 16]) (by kernel_rfl) (by simp) ?_
      refine AllReadyL.cons rfl (fun K hK => ?_) ?_
      · refine own_append_step (by rfl) _ _ 49 (by rfl) 0 3 (.int .i64 0) 8 Tryd.underlying49 infoInt rfl _ (i64s up) (by rfl) (Keeps.ownsRow (S := fun _ => False) (w := w) (by first | exact (Keeps.refl _ _).drew.alloc _ | exact ((Keeps.refl _ _).drew.alloc _).alloc _) (fun _ _ x => x) DH.out.ow1) ⟨_, 0, none⟩ 1 1 [.int .i64 now] (by rfl) rfl (news_one (by first | exact new_cell _ _ _ | exact cell_1 _ _ | exact cell_12 _ _ _ | exact cell_2 _ _ _)) (by simp [Value.oneCell']) (by simp [i64s]; omega) (by simp [i64s]; omega) (Nat.zero_le _) ?_
        intro v1 w1 ho1 hg1 hb1 ha1
        rw [i64s_snoc] at ho1
        obtain ⟨b1, cp1, rfl⟩ := own_slice1 ho1
        replace ha1 := first_app (w := w) (by first | exact (Keeps.refl _ _).drew.alloc _ | exact ((Keeps.refl _ _).drew.alloc _).alloc _) hbs hg1 ha1
        replace ho1 := Lib.hid ho1
        have hs1 := Lib.hid hg1.size
        clear hg1
        obtain ⟨k0, k1, k2, k3, kf, kg⟩ := DH.out.head (ha1.1.mono (fun _ x => .inl x))
        have kf0 := kf 0
        have kf2 := kf 2
        replace ha1 := Lib.hid ha1
        refine hK.out _ _ (fun _ => ⟨k0, k1, k2⟩) ?_
        simp only [Act.put, List.setIfInBounds_toArray, List.set_cons_zero, List.set_cons_succ]
        try simp only [List.getElem_toArray, List.getElem_cons_succ, List.getElem_cons_zero, List.setIfInBounds_toArray, List.set_cons_zero, List.set_cons_succ]
        clear hK K
        refine wpAnyL_ready (rs := [16]) (by kernel_rfl) (by simp) ?_
        refine AllReadyL.cons rfl (fun K hK => ?_) ?_
        · go_simp
          refine hK.out _ _ (fun hs => ⟨(World.cell?_alloc_lt _ _ _ (World.block_lt_of_cell? _ _ hs.1)).trans hs.1, (World.cell?_alloc_lt _ _ _ (World.block_lt_of_cell? _ _ hs.2.1)).trans hs.2.1, (World.cell?_alloc_lt _ _ _ (World.block_lt_of_cell? _ _ hs.2.2)).trans hs.2.2⟩) ?_
          clear hK K
          refine wpAnyL_ready (rs := [17]) (by kernel_rfl) (by simp) ?_
          refine AllReadyL.cons rfl (fun K hK => ?_) ?_
          · refine own_append_step (by rfl) _ _ 49 (by rfl) 0 3 (.int .i64 0) 8 Tryd.underlying49 infoInt rfl _ (i64s tm) (by rfl) (Keeps.ownsRow (S := fun k => k = b) (w := w) (by first | exact ha1.out.1 | exact ha1.out.1.alloc _) (fun k e x => by injection e with e; subst e; exact hbd x.symm) DH.out.ow2) ⟨_, 0, none⟩ 1 1 [.int .i64 0] (by rfl) rfl (news_one (by first | exact new_cell _ _ _ | exact cell_1 _ _ | exact cell_12 _ _ _ | exact cell_2 _ _ _ | exact ha1.out.2.2 _ _ (cell_1 _ _) (Nat.le_refl _) | exact ha1.out.2.2 _ _ (cell_12 _ _ _) (Nat.le_refl _) | exact ha1.out.2.2 _ _ (cell_2 _ _ _) (Nat.le_succ _))) (by simp [Value.oneCell']) (by simp [i64s]; have := TL.out; omega) (by simp [i64s]; have := TL.out; omega) (Nat.zero_le _) ?_
            intro v2 w2 ho2 hg2 hb2 ha2
            rw [i64s_snoc] at ho2
            obtain ⟨b2, cp2, rfl⟩ := own_slice1 ho2
            obtain ⟨hk2, ho1', ha2', hne⟩ := second_app ha1.out.1 (by first | exact Keeps.refl _ _ | exact (Keeps.refl _ _).alloc _) hds hbd ho1.out ha1.out.2.1 hg2 ha2
            have hF := Lib.hid (grown2 DH.out hk2 ho1' ho2 ha1.out.2.1 ha2' hne)
            obtain ⟨m0, m1, m2, m3, mf, mg⟩ := DH.out.head hk2
            have mf0 := mf 0
            have mf2 := mf 2
            clear hg2 ho1' ho2 ha2' hne ha2 hk2 hb2
            refine hK.out _ _ (fun _ => ⟨m0, m1, m2⟩) ?_
            simp only [Act.put, List.setIfInBounds_toArray, List.set_cons_zero, List.set_cons_succ]
            try simp only [List.getElem_toArray, List.getElem_cons_succ, List.getElem_cons_zero, List.setIfInBounds_toArray, List.set_cons_zero, List.set_cons_succ]
            clear hK K
            refine wpAnyL_rest (by kernel_rfl) ?_
            refine wpAny_take (i := 18) (v := .pointer (some ⟨g, 0, none⟩)) rfl (by kernel_rfl) (by kernel_rfl) (by kernel_rfl) (fun _ _ _ h => h) (Or.inl ⟨by rfl, ?_⟩) ?_
            · intro w'; go_simp; try with_reducible rfl
            simp only [Act.put, List.setIfInBounds_toArray, List.set_cons_zero, List.set_cons_succ]
            refine wpAny_take (i := 19) (v := .pointer (some ⟨g, 0, none⟩)) rfl (by kernel_rfl) (by kernel_rfl) (by kernel_rfl) (fun _ _ _ h => h) (Or.inl ⟨by rfl, ?_⟩) ?_
            · intro w'; go_simp; try with_reducible rfl
            simp only [Act.put, List.setIfInBounds_toArray, List.set_cons_zero, List.set_cons_succ]
            refine wpAny_ready (rs := [20]) (by kernel_rfl) (by simp) ?_
            refine AllReady.cons rfl (fun K hK => ?_) AllReady.nil
            go_simp
            refine hK _ _ ?_
            clear hK K
            refine wpAny_take (i := 21) (v := .pointer (some ⟨g, 0, none⟩)) rfl (by kernel_rfl) (by kernel_rfl) (by kernel_rfl) (fun _ _ _ h => h) (Or.inl ⟨by rfl, ?_⟩) ?_
            · intro w'; go_simp; try with_reducible rfl
            simp only [Act.put, List.setIfInBounds_toArray, List.set_cons_zero, List.set_cons_succ]
            refine wpAny_take (i := 22) (v := .pointer (some ⟨g, 2, none⟩)) rfl (by kernel_rfl) (by kernel_rfl) (by kernel_rfl) (fun _ _ _ h => h) (Or.inl ⟨by rfl, ?_⟩) ?_
            · intro w'; go_simp; try with_reducible rfl
            simp only [Act.put, List.setIfInBounds_toArray, List.set_cons_zero, List.set_cons_succ]
            refine wpAny_ready (rs := [23]) (by kernel_rfl) (by simp) ?_
            refine AllReady.cons rfl (fun K hK => ?_) AllReady.nil
            go_simp
            refine hK _ _ ?_
            clear hK K
            refine wpAny_done (by kernel_rfl) ?_ _
            go_wp2_with fail
            go_meet
            first | exact Lib.hid hF.out.1 | exact Lib.hid hF.out.2
          exact AllReadyL.nil
        exact AllReadyL.nil
      refine AllReadyL.cons rfl (fun K hK => ?_) ?_
      · go_simp
        refine hK.out _ _ (fun hs => ⟨(World.cell?_alloc_lt _ _ _ (World.block_lt_of_cell? _ _ hs.1)).trans hs.1, (World.cell?_alloc_lt _ _ _ (World.block_lt_of_cell? _ _ hs.2.1)).trans hs.2.1, (World.cell?_alloc_lt _ _ _ (World.block_lt_of_cell? _ _ hs.2.2)).trans hs.2.2⟩) ?_
        clear hK K
        refine wpAnyL_ready (rs := [11]) (by kernel_rfl) (by simp) ?_
        refine AllReadyL.cons rfl (fun K hK => ?_) ?_
        · refine own_append_step (by rfl) _ _ 49 (by rfl) 0 3 (.int .i64 0) 8 Tryd.underlying49 infoInt rfl _ (i64s up) (by rfl) (Keeps.ownsRow (S := fun _ => False) (w := w) (by first | exact (Keeps.refl _ _).drew.alloc _ | exact ((Keeps.refl _ _).drew.alloc _).alloc _) (fun _ _ x => x) DH.out.ow1) ⟨_, 0, none⟩ 1 1 [.int .i64 now] (by rfl) rfl (news_one (by first | exact new_cell _ _ _ | exact cell_1 _ _ | exact cell_12 _ _ _ | exact cell_2 _ _ _)) (by simp [Value.oneCell']) (by simp [i64s]; omega) (by simp [i64s]; omega) (Nat.zero_le _) ?_
          intro v1 w1 ho1 hg1 hb1 ha1
          rw [i64s_snoc] at ho1
          obtain ⟨b1, cp1, rfl⟩ := own_slice1 ho1
          replace ha1 := first_app (w := w) (by first | exact (Keeps.refl _ _).drew.alloc _ | exact ((Keeps.refl _ _).drew.alloc _).alloc _) hbs hg1 ha1
          replace ho1 := Lib.hid ho1
          have hs1 := Lib.hid hg1.size
          clear hg1
          obtain ⟨k0, k1, k2, k3, kf, kg⟩ := DH.out.head (ha1.1.mono (fun _ x => .inl x))
          have kf0 := kf 0
          have kf2 := kf 2
          replace ha1 := Lib.hid ha1
          refine hK.out _ _ (fun _ => ⟨k0, k1, k2⟩) ?_
          simp only [Act.put, List.setIfInBounds_toArray, List.set_cons_zero, List.set_cons_succ]
          try simp only [List.getElem_toArray, List.getElem_cons_succ, List.getElem_cons_zero, List.setIfInBounds_toArray, List.set_cons_zero, List.set_cons_succ]
          clear hK K
          refine wpAnyL_ready (rs := [17]) (by kernel_rfl) (by simp) ?_
          refine AllReadyL.cons rfl (fun K hK => ?_) ?_
          · refine own_append_step (by rfl) _ _ 49 (by rfl) 0 3 (.int .i64 0) 8 Tryd.underlying49 infoInt rfl _ (i64s tm) (by rfl) (Keeps.ownsRow (S := fun k => k = b) (w := w) (by first | exact ha1.out.1 | exact ha1.out.1.alloc _) (fun k e x => by injection e with e; subst e; exact hbd x.symm) DH.out.ow2) ⟨_, 0, none⟩ 1 1 [.int .i64 0] (by rfl) rfl (news_one (by first | exact new_cell _ _ _ | exact cell_1 _ _ | exact cell_12 _ _ _ | exact cell_2 _ _ _ | exact ha1.out.2.2 _ _ (cell_1 _ _) (Nat.le_refl _) | exact ha1.out.2.2 _ _ (cell_12 _ _ _) (Nat.le_refl _) | exact ha1.out.2.2 _ _ (cell_2 _ _ _) (Nat.le_succ _))) (by simp [Value.oneCell']) (by simp [i64s]; have := TL.out; omega) (by simp [i64s]; have := TL.out; omega) (Nat.zero_le _) ?_
            intro v2 w2 ho2 hg2 hb2 ha2
            rw [i64s_snoc] at ho2
            obtain ⟨b2, cp2, rfl⟩ := own_slice1 ho2
            obtain ⟨hk2, ho1', ha2', hne⟩ := second_app ha1.out.1 (by first | exact Keeps.refl _ _ | exact (Keeps.refl _ _).alloc _) hds hbd ho1.out ha1.out.2.1 hg2 ha2
            have hF := Lib.hid (grown2 DH.out hk2 ho1' ho2 ha1.out.2.1 ha2' hne)
            obtain ⟨m0, m1, m2, m3, mf, mg⟩ := DH.out.head hk2
            have mf0 := mf 0
            have mf2 := mf 2
            clear hg2 ho1' ho2 ha2' hne ha2 hk2 hb2
            refine hK.out _ _ (fun _ => ⟨m0, m1, m2⟩) ?_
            simp only [Act.put, List.setIfInBounds_toArray, List.set_cons_zero, List.set_cons_succ]
            try simp only [List.getElem_toArray, List.getElem_cons_succ, List.getElem_cons_zero, List.setIfInBounds_toArray, List.set_cons_zero, List.set_cons_succ]
            clear hK K
            refine wpAnyL_rest (by kernel_rfl) ?_
            refine wpAny_take (i := 18) (v := .pointer (some ⟨g, 0, none⟩)) rfl (by kernel_rfl) (by kernel_rfl) (by kernel_rfl) (fun _ _ _ h => h) (Or.inl ⟨by rfl, ?_⟩) ?_
            · intro w'; go_simp; try with_reducible rfl
            simp only [Act.put, List.setIfInBounds_toArray, List.set_cons_zero, List.set_cons_succ]
            refine wpAny_take (i := 19) (v := .pointer (some ⟨g, 0, none⟩)) rfl (by kernel_rfl) (by kernel_rfl) (by kernel_rfl) (fun _ _ _ h => h) (Or.inl ⟨by rfl, ?_⟩) ?_
            · intro w'; go_simp; try with_reducible rfl
            simp only [Act.put, List.setIfInBounds_toArray, List.set_cons_zero, List.set_cons_succ]
            refine wpAny_ready (rs := [20]) (by kernel_rfl) (by simp) ?_
            refine AllReady.cons rfl (fun K hK => ?_) AllReady.nil
            go_simp
            refine hK _ _ ?_
            clear hK K
            refine wpAny_take (i := 21) (v := .pointer (some ⟨g, 0, none⟩)) rfl (by kernel_rfl) (by kernel_rfl) (by kernel_rfl) (fun _ _ _ h => h) (Or.inl ⟨by rfl, ?_⟩) ?_
            · intro w'; go_simp; try with_reducible rfl
            simp only [Act.put, List.setIfInBounds_toArray, List.set_cons_zero, List.set_cons_succ]
            refine wpAny_take (i := 22) (v := .pointer (some ⟨g, 2, none⟩)) rfl (by kernel_rfl) (by kernel_rfl) (by kernel_rfl) (fun _ _ _ h => h) (Or.inl ⟨by rfl, ?_⟩) ?_
            · intro w'; go_simp; try with_reducible rfl
            simp only [Act.put, List.setIfInBounds_toArray, List.set_cons_zero, List.set_cons_succ]
            refine wpAny_ready (rs := [23]) (by kernel_rfl) (by simp) ?_
            refine AllReady.cons rfl (fun K hK => ?_) AllReady.nil
            go_simp
            refine hK _ _ ?_
            clear hK K
            refine wpAny_done (by kernel_rfl) ?_ _
            go_wp2_with fail
            go_meet
            first | exact Lib.hid hF.out.1 | exact Lib.hid hF.out.2
          exact AllReadyL.nil
        exact AllReadyL.nil
      exact AllReadyL.nil
    refine AllReadyL.cons rfl (fun K hK => ?_) ?_
    · go_simp
      refine hK.out _ _ (fun hs => ⟨(World.cell?_alloc_lt _ _ _ (World.block_lt_of_cell? _ _ hs.1)).trans hs.1, (World.cell?_alloc_lt _ _ _ (World.block_lt_of_cell? _ _ hs.2.1)).trans hs.2.1, (World.cell?_alloc_lt _ _ _ (World.block_lt_of_cell? _ _ hs.2.2)).trans hs.2.2⟩) ?_
      clear hK K
      refine wpAnyL_ready (rs := [10]) (by kernel_rfl) (by simp) ?_
      refine AllReadyL.cons rfl (fun K hK => ?_) ?_
      · go_simp
        refine hK.out _ _ (fun hs => ⟨(World.cell?_alloc_lt _ _ _ (World.block_lt_of_cell? _ _ hs.1)).trans hs.1, (World.cell?_alloc_lt _ _ _ (World.block_lt_of_cell? _ _ hs.2.1)).trans hs.2.1, (World.cell?_alloc_lt _ _ _ (World.block_lt_of_cell? _ _ hs.2.2)).trans hs.2.2⟩) ?_
        clear hK K
        refine wpAnyL_ready (rs := [11]) (by kernel_rfl) (by simp) ?_
        refine AllReadyL.cons rfl (fun K hK => ?_) ?_
        · refine own_append_step (by rfl) _ _ 49 (by rfl) 0 3 (.int .i64 0) 8 Tryd.underlying49 infoInt rfl _ (i64s up) (by rfl) (Keeps.ownsRow (S := fun _ => False) (w := w) (by first | exact (Keeps.refl _ _).drew.alloc _ | exact ((Keeps.refl _ _).drew.alloc _).alloc _) (fun _ _ x => x) DH.out.ow1) ⟨_, 0, none⟩ 1 1 [.int .i64 now] (by rfl) rfl (news_one (by first | exact new_cell _ _ _ | exact cell_1 _ _ | exact cell_12 _ _ _ | exact cell_2 _ _ _)) (by simp [Value.oneCell']) (by simp [i64s]; omega) (by simp [i64s]; omega) (Nat.zero_le _) ?_
          intro v1 w1 ho1 hg1 hb1 ha1
          rw [i64s_snoc] at ho1
          obtain ⟨b1, cp1, rfl⟩ := own_slice1 ho1
          replace ha1 := first_app (w := w) (by first | exact (Keeps.refl _ _).drew.alloc _ | exact ((Keeps.refl _ _).drew.alloc _).alloc _) hbs hg1 ha1
          replace ho1 := Lib.hid ho1
          have hs1 := Lib.hid hg1.size
          clear hg1
          obtain ⟨k0, k1, k2, k3, kf, kg⟩ := DH.out.head (ha1.1.mono (fun _ x => .inl x))
          have kf0 := kf 0
          have kf2 := kf 2
          replace ha1 := Lib.hid ha1
          refine hK.out _ _ (fun _ => ⟨k0, k1, k2⟩) ?_
          simp only [Act.put, List.setIfInBounds_toArray, List.set_cons_zero, List.set_cons_succ]
          try simp only [List.getElem_toArray, List.getElem_cons_succ, List.getElem_cons_zero, List.setIfInBounds_toArray, List.set_cons_zero, List.set_cons_succ]
          clear hK K
          refine wpAnyL_ready (rs := [17]) (by kernel_rfl) (by simp) ?_
          refine AllReadyL.cons rfl (fun K hK => ?_) ?_
          · refine own_append_step (by rfl) _ _ 49 (by rfl) 0 3 (.int .i64 0) 8 Tryd.underlying49 infoInt rfl _ (i64s tm) (by rfl) (Keeps.ownsRow (S := fun k => k = b) (w := w) (by first | exact ha1.out.1 | exact ha1.out.1.alloc _) (fun k e x => by injection e with e; subst e; exact hbd x.symm) DH.out.ow2) ⟨_, 0, none⟩ 1 1 [.int .i64 0] (by rfl) rfl (news_one (by first | exact new_cell _ _ _ | exact cell_1 _ _ | exact cell_12 _ _ _ | exact cell_2 _ _ _ | exact ha1.out.2.2 _ _ (cell_1 _ _) (Nat.le_refl _) | exact ha1.out.2.2 _ _ (cell_12 _ _ _) (Nat.le_refl _) | exact ha1.out.2.2 _ _ (cell_2 _ _ _) (Nat.le_succ _))) (by simp [Value.oneCell']) (by simp [i64s]; have := TL.out; omega) (by simp [i64s]; have := TL.out; omega) (Nat.zero_le _) ?_
            intro v2 w2 ho2 hg2 hb2 ha2
            rw [i64s_snoc] at ho2
            obtain ⟨b2, cp2, rfl⟩ := own_slice1 ho2
            obtain ⟨hk2, ho1', ha2', hne⟩ := second_app ha1.out.1 (by first | exact Keeps.refl _ _ | exact (Keeps.refl _ _).alloc _) hds hbd ho1.out ha1.out.2.1 hg2 ha2
            have hF := Lib.hid (grown2 DH.out hk2 ho1' ho2 ha1.out.2.1 ha2' hne)
            obtain ⟨m0, m1, m2, m3, mf, mg⟩ := DH.out.head hk2
            have mf0 := mf 0
            have mf2 := mf 2
            clear hg2 ho1' ho2 ha2' hne ha2 hk2 hb2
            refine hK.out _ _ (fun _ => ⟨m0, m1, m2⟩) ?_
            simp only [Act.put, List.setIfInBounds_toArray, List.set_cons_zero, List.set_cons_succ]
            try simp only [List.getElem_toArray, List.getElem_cons_succ, List.getElem_cons_zero, List.setIfInBounds_toArray, List.set_cons_zero, List.set_cons_succ]
            clear hK K
            refine wpAnyL_rest (by kernel_rfl) ?_
            refine wpAny_take (i := 18) (v := .pointer (some ⟨g, 0, none⟩)) rfl (by kernel_rfl) (by kernel_rfl) (by kernel_rfl) (fun _ _ _ h => h) (Or.inl ⟨by rfl, ?_⟩) ?_
            · intro w'; go_simp; try with_reducible rfl
            simp only [Act.put, List.setIfInBounds_toArray, List.set_cons_zero, List.set_cons_succ]
            refine wpAny_take (i := 19) (v := .pointer (some ⟨g, 0, none⟩)) rfl (by kernel_rfl) (by kernel_rfl) (by kernel_rfl) (fun _ _ _ h => h) (Or.inl ⟨by rfl, ?_⟩) ?_
            · intro w'; go_simp; try with_reducible rfl
            simp only [Act.put, List.setIfInBounds_toArray, List.set_cons_zero, List.set_cons_succ]
            refine wpAny_ready (rs := [20]) (by kernel_rfl) (by simp) ?_
            refine AllReady.cons rfl (fun K hK => ?_) AllReady.nil
            go_simp
            refine hK _ _ ?_
            clear hK K
            refine wpAny_take (i := 21) (v := .pointer (some ⟨g, 0, none⟩)) rfl (by kernel_rfl) (by kernel_rfl) (by kernel_rfl) (fun _ _ _ h => h) (Or.inl ⟨by rfl, ?_⟩) ?_
            · intro w'; go_simp; try with_reducible rfl
            simp only [Act.put, List.setIfInBounds_toArray, List.set_cons_zero, List.set_cons_succ]
            refine wpAny_take (i := 22) (v := .pointer (some ⟨g, 2, none⟩)) rfl (by kernel_rfl) (by kernel_rfl) (by kernel_rfl) (fun _ _ _ h => h) (Or.inl ⟨by rfl, ?_⟩) ?_
            · intro w'; go_simp; try with_reducible rfl
            simp only [Act.put, List.setIfInBounds_toArray, List.set_cons_zero, List.set_cons_succ]
            refine wpAny_ready (rs := [23]) (by kernel_rfl) (by simp) ?_
            refine AllReady.cons rfl (fun K hK => ?_) AllReady.nil
            go_simp
            refine hK _ _ ?_
            clear hK K
            refine wpAny_done (by kernel_rfl) ?_ _
            go_wp2_with fail
            go_meet
            first | exact Lib.hid hF.out.1 | exact Lib.hid hF.out.2
          exact AllReadyL.nil
        exact AllReadyL.nil
      exact AllReadyL.nil
    exact AllReadyL.nil
  case rest =>
    obtain ⟨b', cap1, d', cap2, hD1, hK1, hb', hd'⟩ := hcut.out
    have hu1 : (up ++ [(now : Int)]).length = up.length + 1 := by simp
    have hU1 := Lib.hid (ups_app UH.out now (by omega) (by omega))
    have k0 := hD1.c0
    have k1 := hD1.c1
    rw [hu1] at k0
    have kf := hD1.fz 1
    have S1 := Lib.hid (hD1.setNow up.length)
    have hKK := Lib.hid ((hK1.setCell (p := ⟨g, 1, none⟩) (.inl (.inl rfl)) (.int .i64 up.length)))
    have hl1 : up.length < (up ++ [(now : Int)]).length := by omega
    have hl2 : (up ++ [(now : Int)]).length ≤ 1000 := by omega
    have hl3 : (tm ++ [(0 : Int)]).length = (up ++ [(now : Int)]).length := by rw [List.length_append, List.length_append, TL.out]; rfl
    have hLH := Lib.hid (And.intro hl1 (And.intro hl2 hl3))
    clear hcut hD1 hK1 c0 c1 c2 f0 f2 hu1 hl1 hl2 hl3
    go_wp2_with fail
    refine (mark_any _ g b' cap1 d' cap2 _ _ up.length t S1.out hU1.out hLH.out.1 hLH.out.2.1 hLH.out.2.2 (by omega)).mono ?_; rintro e w1 ⟨rfl, hD2, hK2⟩
    have DD := Lib.hid hD2
    have KK := Lib.hid hK2
    clear hD2 hK2
    go_wp2_with fail
    go_ret
    refine ⟨b', cap1, d', cap2, rfl, DD.out, hKK.out.trans KK.out (fun j hj => ?_), hb', hd'⟩
    rcases hj with h | h
    · exact .inl (.inl h)
    · rcases hd' with e | e
      · exact .inl (.inr (.inr (by rw [h]; exact e)))
      · exact .inr (by rw [h]; exact e)
end Go.Proofs.YtijcehimdhbceaaDoor.Un
