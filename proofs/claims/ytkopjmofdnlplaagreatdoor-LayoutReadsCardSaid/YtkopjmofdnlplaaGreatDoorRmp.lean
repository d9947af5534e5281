/-
  PROVED HERE: maps with strings as keys that a call owns, whatever their elements: made, asked, stored into. Conditions: as each theorem states.
-/
import Derived.Test.YtkopjmofdnlplaaGreatDoorRows
import Derived.Test.YtkopjmofdnlplaaGreatDoorOwn
import Derived.Deep.Slices
import Derived.Maps.OwnSet
import Derived.Maps.Views
namespace Go.Proofs.YtkopjmofdnlplaaGreatDoor.Rmp
open Go.RowKit Go.Maps Go.ChangeShapes
/-- An element is held as it stands. -/
def raw (v : Value) : Option (DataW Value × List MemPlace) := some (.held v, [])
theorem keyedS : Keyed Tryz.prog 9 := string_keyed Tryz.underlying9
/-- The map at block b answers M. -/
def Rm (w : World) (b n : Nat) (M : ByteArray → Option Value) : Prop :=
  ∃ D : DataW Value, w.ownsMap Tryz.prog 9 raw b n D ∧ IsMap D ∧ ∀ x : ByteArray, has D (.string x.data.toList) = (M x).isSome ∧ ∀ z : Value, D.atKey (.string x.data.toList) (.held z) = .held ((M x).getD z)
theorem rm_new (w : World) : Rm (w.alloc (.map #[] 0)) w.heap.size 0 (fun _ => none) :=
  ⟨.map [], World.ownsMap_made w _ _ _, (World.ownsMap_made w Tryz.prog 9 raw).isMap, fun _ => ⟨rfl, fun _ => rfl⟩⟩
theorem Rm.kept {w w' : World} {b n : Nat} {M : ByteArray → Option Value} {row : Option Nat} (h : Rm w b n M) (hg : w.grownBy w' row) (hne : some b ≠ row) : Rm w' b n M := by
  obtain ⟨D, h1, h2, h3⟩ := h
  exact ⟨D, h1.kept hg hne, h2, h3⟩
theorem Rm.below {w w' : World} {b n : Nat} {M : ByteArray → Option Value} (h : Rm w b n M) (hb : Below w.heap.size w w') : Rm w' b n M :=
  h.kept (row := none) ⟨hb.os, hb.tape, hb.output, hb.size, fun k hk _ => hb.block k hk⟩ (by simp)
theorem Rm.mono {w : World} {b n n' : Nat} {M : ByteArray → Option Value} (h : Rm w b n M) (hn : n ≤ n') : Rm w b n' M := by
  obtain ⟨D, h1, h2, h3⟩ := h
  exact ⟨D, h1.mono hn, h2, h3⟩
theorem Rm.lt {w : World} {b n : Nat} {M : ByteArray → Option Value} (h : Rm w b n M) : b < w.heap.size := by
  obtain ⟨D, h1, _⟩ := h
  exact h1.lt
theorem Rm.block {w w' : World} {b n : Nat} {M : ByteArray → Option Value} (h : Rm w b n M) (hb : w'.heap[b]? = w.heap[b]?) : Rm w' b n M := by
  obtain ⟨D, ⟨es, clock, h1, F, hs, hD⟩, h2, h3⟩ := h
  exact ⟨D, ⟨es, clock, hb.trans h1, F, hs, hD⟩, h2, h3⟩
section
variable {w : World} {b n : Nat} {M : ByteArray → Option Value} {t e : TypeId} {z : Value}
theorem Rm.get (h : Rm w b n M) (ht : Tryz.prog.underlying t = some (.map 9 e)) (hz : (zeroValue e).run Tryz.prog w = .ok z w) (x : ByteArray) (hx : x.size ≤ maxLen) : (Instr.lookup t (.map (some b)) (.string x) false).run Tryz.prog w = .ok ((M x).getD z) w := by
  obtain ⟨D, h1, h2, h3⟩ := h
  obtain ⟨v, ps, hrun, hv⟩ := h1.lookup keyedS ht hz (zd := .held z) (zp := []) rfl (Go.WideMaps.keyOf_string_mk Tryz.underlying9 (s := x) hx)
  rw [(h3 x).2 z] at hv
  simp only [raw, Option.some.injEq, Prod.mk.injEq, DataW.held.injEq] at hv
  rw [hrun, hv.1]
theorem Rm.look (h : Rm w b n M) (ht : Tryz.prog.underlying t = some (.map 9 e)) (hz : (zeroValue e).run Tryz.prog w = .ok z w) (x : ByteArray) (hx : x.size ≤ maxLen) : (Instr.lookup t (.map (some b)) (.string x) true).run Tryz.prog w = .ok (.tuple #[(M x).getD z, .bool (M x).isSome]) w := by
  obtain ⟨D, h1, h2, h3⟩ := h
  obtain ⟨v, ps, hrun, hv⟩ := h1.look_ok keyedS ht hz (zd := .held z) (zp := []) rfl (Go.WideMaps.keyOf_string_mk Tryz.underlying9 (s := x) hx)
  rw [(h3 x).2 z] at hv
  simp only [raw, Option.some.injEq, Prod.mk.injEq, DataW.held.injEq] at hv
  rw [hrun, hv.1, (h3 x).1]
def putM (M : ByteArray → Option Value) (x : ByteArray) (v : Value) : ByteArray → Option Value := fun y => if y = x then some v else M y
theorem Rm.put (h : Rm w b n M) (ht : Tryz.prog.underlying t = some (.map 9 e)) (hn : n ≤ 1000000) (x : ByteArray) (hx : x.size ≤ maxLen) (v : Value) : ∃ w', (Instr.mapUpdate t (.map (some b)) (.string x) v).run Tryz.prog w = .ok () w' ∧ Rm w' b (n + 1) (putM M x v) ∧ w.grownBy w' (some b) := by
  obtain ⟨D, h1, h2, h3⟩ := h
  obtain ⟨w', r1, r2, r3⟩ := h1.update keyedS ht (by unfold maxLen; omega) (Go.WideMaps.keyOf_string_mk Tryz.underlying9 (s := x) hx) (show raw v = some (.held v, []) from rfl)
  refine ⟨w', r1, ⟨_, r2, h2.put _ _, fun y => ?_⟩, r3⟩
  unfold putM
  by_cases he : y = x
  · subst he
    rw [if_pos rfl]
    exact ⟨has_put_same h2 (by trivial) _, fun z => atKey_put_same h2 (by trivial) _ _⟩
  · rw [if_neg he]
    have hne : (Lit.string y.data.toList) ≠ Lit.string x.data.toList := fun q => by injection q with q; exact he (by apply ByteArray.ext; exact Array.toList_inj.1 q)
    exact ⟨(has_put_other hne _).trans (h3 y).1, fun z => (atKey_put_other hne _ _).trans ((h3 y).2 z)⟩
end
end Go.Proofs.YtkopjmofdnlplaaGreatDoor.Rmp
