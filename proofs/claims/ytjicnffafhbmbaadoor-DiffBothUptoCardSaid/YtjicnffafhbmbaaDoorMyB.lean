/-
  PROVED HERE: a table of numbers in rows of a call's own: what it holds behind an alloc, a store, a new row. Conditions: as each theorem states.
-/
import Derived.Test.YtjicnffafhbmbaaDoorMyA
import Derived.Test.YtjicnffafhbmbaaDoorOwn
import Derived.Deep.RegionHeld
namespace Go.Proofs.YtjicnffafhbmbaaDoor.My
open Go.RowKit
/-- Rows of m + 1 numbers each, told by the cells of block H; those of R stand. -/
structure Tb (w : World) (H : Nat) (g : Nat → Nat) (n m : Nat) (R : Nat → Prop) (f : Nat → Nat → Nat) : Prop where
  out : ∀ i, i ≤ n → R i → w.cell? ⟨H, i, none⟩ = some (.slice (some ⟨g i, 0, none⟩) (m + 1) (m + 1))
  has : ∀ i, i ≤ n → ∃ v, w.cell? ⟨H, i, none⟩ = some v
  free : ∀ i, i ≤ n → w.frozen? ⟨H, i, none⟩ = false
  row : ∀ i, i ≤ n → R i → ∀ j, j ≤ m → w.cell? ⟨g i, j, none⟩ = some (.int .i64 (f i j : Nat)) ∧ w.frozen? ⟨g i, j, none⟩ = false
  ne : ∀ i i', i ≤ n → i' ≤ n → g i = g i' → i = i'
  nh : ∀ i, i ≤ n → g i ≠ H
section
variable {w : World} {H : Nat} {g : Nat → Nat} {n m : Nat} {R : Nat → Prop} {f : Nat → Nat → Nat}
theorem Tb.below {w' : World} (h : Tb w H g n m R f) (hb : Below w.heap.size w w') : Tb w' H g n m R f := by
  refine ⟨fun i hi hr => keepCell hb (h.out i hi hr), fun i hi => ?_, fun i hi => ?_, fun i hi hr j hj => ?_, h.ne, h.nh⟩
  · obtain ⟨v, hv⟩ := h.has i hi
    exact ⟨v, keepCell hb hv⟩
  · obtain ⟨v, hv⟩ := h.has i hi
    exact keepFree hb hv (h.free i hi)
  · obtain ⟨h1, h2⟩ := h.row i hi hr j hj
    exact ⟨keepCell hb h1, keepFree hb h1 h2⟩
theorem Tb.drew (h : Tb w H g n m R f) : Tb w.drew H g n m R f := ⟨h.out, h.has, h.free, h.row, h.ne, h.nh⟩
theorem Tb.drewN (h : Tb w H g n m R f) (k : Nat) : Tb (w.drewN k) H g n m R f := ⟨h.out, h.has, h.free, h.row, h.ne, h.nh⟩
theorem Tb.set (h : Tb w H g n m R f) (i j : Nat) (hi : i ≤ n) (hr : R i) (hj : j ≤ m) (x : Nat) (v : Value) (hv : v = .int .i64 (x : Nat)) : Tb (w.setCell ⟨g i, j, none⟩ v) H g n m R (fun i' j' => if i' = i ∧ j' = j then x else f i' j') := by
  subst hv
  refine ⟨fun i' hi' hr' => ?_, fun i' hi' => ?_, fun i' hi' => by rw [frozen?_setCell]; exact h.free i' hi', fun i' hi' hr' j' hj' => ⟨?_, by rw [frozen?_setCell]; exact (h.row i' hi' hr' j' hj').2⟩, h.ne, h.nh⟩
  · rw [World.cell?_setCell_far _ _ _ _ (show g i ≠ H from h.nh i hi)]
    exact h.out i' hi' hr'
  · rw [World.cell?_setCell_far _ _ _ _ (show g i ≠ H from h.nh i hi)]
    exact h.has i' hi'
  · by_cases e : i' = i ∧ j' = j
    · obtain ⟨rfl, rfl⟩ := e
      rw [if_pos ⟨rfl, rfl⟩]
      exact World.cell?_setCell_same _ _ _ (h.row i' hi hr j' hj).1
    · rw [if_neg e, World.cell?_setCell_other _ _ _ _ (fun q => by
        injection q with q1 q2
        exact e ⟨(h.ne _ _ hi hi' q1).symm, q2.symm⟩)]
      exact (h.row i' hi' hr' j' hj').1
theorem new_zeros (w : World) (E m : Nat) (hm : m ≤ 100000) (j : Nat) (hj : j ≤ m) : (w.alloc (.cells (madeCells #[.int .i64 0] (m + 1)) E)).cell? ⟨w.heap.size, j, none⟩ = some (.int .i64 0) ∧ (w.alloc (.cells (madeCells #[.int .i64 0] (m + 1)) E)).frozen? ⟨w.heap.size, j, none⟩ = false := by
  have h := own_full w w.heap.size E (m + 1) (.int .i64 0) (Nat.le_refl _) (by omega)
  rcases h.form with ⟨_, h0⟩ | ⟨g, cap, e, _, _, hc, hf⟩
  · exact absurd h0 (by simp)
  · simp only [Value.slice.injEq, Option.some.injEq, Addr.mk.injEq] at e
    obtain ⟨⟨e1, _⟩, _⟩ := e
    subst e1
    have h2 := hc j (by rw [List.length_replicate]; omega)
    rw [List.getElem_replicate] at h2
    exact ⟨h2, hf j⟩
/-- A new row. -/
theorem Tb.add (h : Tb w H g n m R f) (hm : m ≤ 100000) (i : Nat) (hi : i ≤ n) (hg : g i = w.heap.size) (E : Nat) (hn : ¬ R i) (v : Value) (hv : v = .slice (some ⟨w.heap.size, 0, none⟩) (m + 1) (m + 1)) (R' : Nat → Prop) (hR : ∀ i', R' i' → R i' ∨ i' = i) (f' : Nat → Nat → Nat) (hf : ∀ i' j', R' i' → f' i' j' = if i' = i then 0 else f i' j') :
    Tb ((w.alloc (.cells (madeCells #[.int .i64 0] (m + 1)) E)).setCell ⟨H, i, none⟩ v) H g n m R' f' := by
  subst hv
  have h' : Tb (w.alloc (.cells (madeCells #[.int .i64 0] (m + 1)) E)) H g n m R f := h.below ((Below.refl _ _).alloc (Nat.le_refl _) _)
  refine ⟨fun i' hi' hr' => ?_, fun i' hi' => ?_, fun i' hi' => by rw [frozen?_setCell]; exact h'.free i' hi', fun i' hi' hr' j' hj' => ⟨?_, ?_⟩, h.ne, h.nh⟩
  · by_cases e : i' = i
    · subst e
      obtain ⟨u, hu⟩ := h'.has i' hi'
      rw [World.cell?_setCell_same _ _ _ hu, hg]
    · rw [World.cell?_setCell_other _ _ _ _ (fun q => by injection q with _ q2; exact e q2.symm)]
      exact h'.out i' hi' ((hR i' hr').resolve_right e)
  · by_cases e : i' = i
    · subst e
      obtain ⟨u, hu⟩ := h'.has i' hi'
      exact ⟨_, World.cell?_setCell_same _ _ _ hu⟩
    · rw [World.cell?_setCell_other _ _ _ _ (fun q => by injection q with _ q2; exact e q2.symm)]
      exact h'.has i' hi'
  · rw [World.cell?_setCell_far _ _ _ _ (show H ≠ g i' from fun q => h.nh i' hi' q.symm), hf i' j' hr']
    by_cases e : i' = i
    · subst e
      rw [if_pos rfl, hg]
      exact (new_zeros w E m hm j' hj').1
    · rw [if_neg e]
      exact (h'.row i' hi' ((hR i' hr').resolve_right e) j' hj').1
  · rw [frozen?_setCell]
    by_cases e : i' = i
    · subst e
      rw [hg]
      exact (new_zeros w E m hm j' hj').2
    · exact (h'.row i' hi' ((hR i' hr').resolve_right e) j' hj').2
end
theorem Tb.congr {w : World} {H : Nat} {g : Nat → Nat} {n m : Nat} {R R' : Nat → Prop} {f f' : Nat → Nat → Nat} (h : Tb w H g n m R f) (hR : ∀ i, i ≤ n → R' i → R i) (hf : ∀ i j, i ≤ n → j ≤ m → R' i → f i j = f' i j) : Tb w H g n m R' f' :=
  ⟨fun i hi hr => h.out i hi (hR i hi hr), h.has, h.free, fun i hi hr j hj => ⟨by rw [← hf i j hi hj hr]; exact (h.row i hi (hR i hi hr) j hj).1, (h.row i hi (hR i hi hr) j hj).2⟩, h.ne, h.nh⟩
/-- make([]E, c). -/
theorem run_make1 {P : Program} (t E : TypeId) (z : Value) (bytes : Nat) (ht : P.underlying t = some (.slice E)) (hinfo : (P.info? E).map (fun i => (i.zero, i.size, i.bytes)) = some (some z, 1, bytes)) (hz1 : z.cells = #[z])
    (c : Nat) (hb : bytes * c ≤ 281474976710656) (h63 : c ≤ 1000000) (w : World) :
    (Instr.makeSlice t (.int .i64 (c : Int)) (.int .i64 (c : Int))).run P w = .ok (.slice (some ⟨w.heap.size, 0, none⟩) c c) (w.alloc (.cells (madeCells #[z] c) E)) := by
  obtain ⟨i, hi, hzz⟩ := Option.map_eq_some_iff.1 hinfo
  simp only [Prod.mk.injEq] at hzz
  obtain ⟨hz, hs, hbb⟩ := hzz
  have := run_make (P := P) w t E i z ht hi hz .i64 .i64 (c : Int) (c : Int) (by omega) (Int.le_refl _) (by rw [hbb]; omega) (by omega)
  rw [hs, hz1, Nat.mul_one] at this
  exact this
/-- The rows' own row, before any stands. -/
theorem tb_new (w : World) (E n m : Nat) (z : Value) (hn : n ≤ 100000) (f : Nat → Nat → Nat) (g : Nat → Nat) (hg : ∀ i, g i = w.heap.size + 1 + i) : Tb (w.alloc (.cells (madeCells #[z] (n + 1)) E)) w.heap.size g n m (fun _ => False) f := by
  have h := own_full w w.heap.size E (n + 1) z (Nat.le_refl _) (by omega)
  rcases h.form with ⟨_, h0⟩ | ⟨g', cap, e, _, _, hc, hf⟩
  · exact absurd h0 (by simp)
  · simp only [Value.slice.injEq, Option.some.injEq, Addr.mk.injEq] at e
    obtain ⟨⟨e1, _⟩, _⟩ := e
    subst e1
    refine ⟨fun _ _ h => h.elim, fun i hi => ?_, fun i _ => hf i, fun _ _ h => h.elim, fun i i' _ _ e => ?_, fun i _ => ?_⟩
    · have h2 := hc i (by rw [List.length_replicate]; omega)
      exact ⟨_, h2⟩
    · rw [hg, hg] at e; omega
    · rw [hg]; omega
end Go.Proofs.YtjicnffafhbmbaaDoor.My
