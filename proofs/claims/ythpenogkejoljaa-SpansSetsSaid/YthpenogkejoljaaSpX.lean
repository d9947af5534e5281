/-
  PROVED HERE: append of a whole list of spans to one of the call's own. Conditions: as each theorem states.
-/
import Derived.Test.YthpenogkejoljaaSpW
namespace Go.Proofs.Ythpenogkejoljaa.Sp
open Go.RowKit
theorem sps_cells {w : World} {ad : Addr} {n c : Nat} {l : List Spn} (h : Sps w (.slice (some ad) n c) l) : ∀ t u, (spCells l)[t]? = some u → w.cell? (ad.add t) = some u := by
  intro t u hu
  have hl : t < l.length * 2 := by
    have := (List.getElem?_eq_some_iff.1 hu).1
    rwa [spCells_len] at this
  obtain ⟨a', c', e, hc⟩ := h
  simp only [Value.slice.injEq, Option.some.injEq] at e
  obtain ⟨rfl, _, _⟩ := e
  obtain ⟨ad', e', h1, h2⟩ := hc (t / 2) (by omega)
  obtain rfl : ad = ad' := by simpa using e'
  have hg := spCells_get l (t / 2) (t % 2) (by omega) (by omega)
  rw [show t / 2 * 2 + t % 2 = t by omega] at hg
  rw [hg] at hu
  rcases (show t % 2 = 0 ∨ t % 2 = 1 by omega) with e0 | e0
  · rw [e0] at hu
    have ht : t = t / 2 * 2 := by omega
    rw [ht, h1]
    simpa [spc] using hu
  · rw [e0] at hu
    have ht : t = t / 2 * 2 + 1 := by omega
    rw [ht, h2]
    simpa [spc] using hu
theorem ownS_appendN {w : World} {ops : Array Oper} {rest : List Oper} {o : Oper} {a : Act} {Q : Exit → Act → World → Prop} (hgd : o.guard = none) (s x : Operand)
    (ho : o.op = .call { callee := .builtin .append, args := #[s, x], argTypes := #[22, 22] })
    (B : Nat) (v : Value) (l m : List Spn) (hs : a.eval s = v) (hown : OwnS w B v l)
    (ad : Addr) (c : Nat) (hx : a.eval x = .slice (some ad) m.length c) (hnew : Sps w (.slice (some ad) m.length c) m)
    (hlen : l.length + m.length ≤ 100000000) (hbase : B ≤ w.heap.size)
    (h : ∀ v' w', OwnS w' B v' (l ++ m) → w.grownBy w' v.ownBlock → Below B w w' → wpList Try.prog ops Q rest (a.put o.dst v') w') : wpList Try.prog ops Q (o :: rest) a w := by
  obtain ⟨i, hi, hz0, hz1, hz2⟩ := info_parts infoSpn
  refine wpList_append_own_at w hgd s x 22 ho B 26 i _ 2 16 Try.underlying22 hi hz0 hz1 hz2 rfl (by decide) v l.length (spCells l) hs hown ad m.length c (spCells m) hx (spCells_len m) (sps_cells hnew) (fun u hu => ?_) (by unfold maxLen; omega) (by omega) hbase ?_
  · obtain ⟨y, _, hy⟩ := List.mem_flatMap.1 hu
    simp [spc] at hy
    rcases hy with rfl | rfl <;> rfl
  · intro v' w' h2 h3 _ _
    refine h v' w' ?_ h3 ((Below.refl B w).grown h3 hbase (fun k hk => (World.ownsRow.lt hown k hk).1))
    unfold OwnS
    rw [List.length_append, show spCells (l ++ m) = spCells l ++ spCells m by simp [spCells]]
    exact h2
end Go.Proofs.Ythpenogkejoljaa.Sp
