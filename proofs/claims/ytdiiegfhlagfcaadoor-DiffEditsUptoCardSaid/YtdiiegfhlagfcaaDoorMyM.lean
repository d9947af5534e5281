/-
  PROVED HERE: a map from integers to integers of a call's own, as a function: what a look answers, what a store leaves. Conditions: as each theorem states.
-/
import Derived.Test.YtdiiegfhlagfcaaDoorMyA
import Derived.Test.YtdiiegfhlagfcaaDoorOwn
import Derived.Test.YtdiiegfhlagfcaaDoorRows
import Derived.Maps.OwnSet
import Derived.Maps.Views
namespace Go.Proofs.YtdiiegfhlagfcaaDoor.My
open Go.RowKit Go.Maps Go.ChangeShapes
def Mp (w : World) (b cnt : Nat) (M : Int → Int) : Prop :=
  ∃ D : DataW Unit, w.ownsMap Tryd.prog 3 (plainElem Tryd.prog 3) b cnt D ∧ IsMap D ∧ ∀ k : Int, D.atKey (.int .i64 k) (.lit (.int .i64 0)) = .lit (.int .i64 (M k))
theorem keyedI : Keyed Tryd.prog 3 := int_keyed Tryd.underlying3
theorem wf64 (k : Int) (h : -9223372036854775808 ≤ k ∧ k ≤ 9223372036854775807) : (Lit.int .i64 k).wf = true := by
  simp [Lit.wf, IntKind.min, IntKind.max, IntKind.signed, IntKind.bits]; omega
theorem keyI (k : Int) (h : -9223372036854775808 ≤ k ∧ k ≤ 9223372036854775807) : keyOf Tryd.prog 3 (.int .i64 k) = some (.int .i64 k) := keyOf_int_mk Tryd.underlying3 (wf64 k h)
theorem zeroM (w : World) : (zeroValue 3).run Tryd.prog w = .ok (.int .i64 0) w := by kernel_rfl
theorem mp_new (w : World) : Mp (w.alloc (.map #[] 0)) w.heap.size 0 (fun _ => 0) :=
  ⟨.map [], World.ownsMap_made w _ _ _, (World.ownsMap_made w Tryd.prog 3 (plainElem (H := Unit) Tryd.prog 3)).isMap, fun _ => rfl⟩
theorem Mp.get {w : World} {b cnt : Nat} {M : Int → Int} (h : Mp w b cnt M) (k : Int) (hk : -9223372036854775808 ≤ k ∧ k ≤ 9223372036854775807) :
    (Instr.lookup 40 (.map (some b)) (.int .i64 k) false).run Tryd.prog w = .ok (.int .i64 (M k)) w := by
  obtain ⟨D, h1, h2, h3⟩ := h
  obtain ⟨c, hrun, hat, _⟩ := h1.lookup_int keyedI Tryd.underlying40 Tryd.underlying3 (zeroM w) (keyI k hk)
  rw [h3 k] at hat
  injection hat with hat
  injection hat with _ hat
  rw [hat]
  exact hrun
theorem Mp.put {w : World} {b cnt : Nat} {M : Int → Int} (h : Mp w b cnt M) (hc : cnt ≤ 1000000) (k v : Int) (hk : -9223372036854775808 ≤ k ∧ k ≤ 9223372036854775807) (hv : -9223372036854775808 ≤ v ∧ v ≤ 9223372036854775807) :
    ∃ w', (Instr.mapUpdate 40 (.map (some b)) (.int .i64 k) (.int .i64 v)).run Tryd.prog w = .ok () w' ∧ Mp w' b (cnt + 1) (fun x => if x = k then v else M x) ∧ w.grownBy w' (some b) := by
  obtain ⟨D, h1, h2, h3⟩ := h
  obtain ⟨w', r1, r2, r3⟩ := h1.update keyedI Tryd.underlying40 (by unfold maxLen; omega) (keyI k hk) (plainElem_int Tryd.underlying3 (wf64 v hv))
  refine ⟨w', r1, ⟨_, r2, h2.put _ _, fun x => ?_⟩, r3⟩
  show _ = DataW.lit (.int .i64 (if x = k then v else M x))
  by_cases e : x = k
  · subst e
    rw [if_pos rfl]
    exact atKey_put_same h2 (by trivial) _ _
  · rw [if_neg e, atKey_put_other (fun q => by injection q with _ q; exact e q)]
    exact h3 x
end Go.Proofs.YtdiiegfhlagfcaaDoor.My
