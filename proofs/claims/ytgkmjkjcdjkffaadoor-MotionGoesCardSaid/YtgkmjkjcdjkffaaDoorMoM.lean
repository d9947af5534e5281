/-
  PROVED HERE: what a look at a map of marks answers, in each later world. Conditions: as each theorem states.
-/
import Derived.Test.YtgkmjkjcdjkffaaDoorMoA
import Derived.Test.YtgkmjkjcdjkffaaDoorOwn
import Derived.Test.YtgkmjkjcdjkffaaDoorRows
import Derived.Maps.OwnSet
namespace Go.Proofs.YtgkmjkjcdjkffaaDoor.Mo
open Go.RowKit Go.Maps Go.ChangeShapes
/-- Each look at key c answers f c, in this world and in each later one. -/
def Marks (W : World) (mo : Option Nat) (f : Nat → Int × Bool) : Prop :=
  ∀ W', Below W.heap.size W W' → ∀ c : Nat, c < 256 → (Instr.lookup 23 (.map mo) (.int .u8 (c : Int)) true).run Tryd.prog W' = .ok (.tuple #[.int .i64 (f c).1, .bool (f c).2]) W' ∧ -9223372036854775808 ≤ (f c).1 ∧ (f c).1 ≤ 9223372036854775807
theorem Marks.below {W W1 : World} {mo : Option Nat} {f : Nat → Int × Bool} (h : Marks W mo f) (hb : Below W.heap.size W W1) : Marks W1 mo f := fun W' hW c hc => h W' (hb.trans (hW.mono hb.size)) c hc
theorem keyedU : Keyed Tryd.prog 5 := int_keyed Tryd.underlying5
theorem keyU (c : Nat) (h : c < 256) : keyOf Tryd.prog 5 (.int .u8 (c : Int)) = some (.int .u8 (c : Int)) :=
  keyOf_int_mk Tryd.underlying5 (by simp [Lit.wf, IntKind.min, IntKind.max, IntKind.signed, IntKind.bits]; omega)
theorem zeroI (w : World) : (zeroValue 3).run Tryd.prog w = .ok (.int .i64 0) w := by kernel_rfl
theorem marks_nil (W : World) : Marks W none (fun _ => (0, false)) := fun W' _ c hc =>
  ⟨Maps.look_nil true keyedU Tryd.underlying23 (zeroI W') (keyU c hc), (by decide : (-9223372036854775808 : Int) ≤ 0), (by decide : (0 : Int) ≤ 9223372036854775807)⟩
variable {H : Type}
def atI (D : DataW H) (c : Nat) : Int := match D.atKey (.int .u8 (c : Int)) (.lit (.int .i64 0)) with | .lit (.int _ a) => a | _ => 0
theorem marks_of {W : World} {b n : Nat} {D : DataW H} (h : W.ownsMap Tryd.prog 5 (plainElem Tryd.prog 3) b n D) : Marks W (some b) (fun c => (atI D c, Maps.has D (.int .u8 (c : Int)))) := fun W' hb c hc => by
  have h' : W'.ownsMap Tryd.prog 5 (plainElem Tryd.prog 3) b n D := by
    obtain ⟨es, clock, he, r⟩ := h
    have hlt : b < W.heap.size := by
      rcases Nat.lt_or_ge b W.heap.size with h | h
      · exact h
      · rw [Array.getElem?_eq_none h] at he; cases he
    exact ⟨es, clock, by rw [hb.block b hlt]; exact he, r⟩
  obtain ⟨v, ps, e, hv⟩ := h'.look_ok keyedU Tryd.underlying23 (zeroI W') (plainElem_int Tryd.underlying3 (by decide)) (keyU c hc)
  obtain ⟨a, rfl, ha, hw⟩ := plainElem_int_inv Tryd.underlying3 hv
  have ha' := congrArg Prod.fst ha
  simp only at ha'
  have hat : atI D c = a := by unfold atI; rw [ha']
  simp only
  rw [hat]
  refine ⟨e, ?_⟩
  exact bounds_i64 hw
/-- What the reading of a map that came in gives. -/
theorem marks_of_trod {enc : TypeId × Value → H} {W : World} {sp : Nat → Bool} {held : Bool} {a : Option Nat} {d : DataW H} {p : List MemPlace} (h : DataW.Trod enc Tryd.prog W 0 sp held 23 (.map a) d p) :
    ∃ (f : Nat → Int × Bool) (ml : Nat), Marks W a f ∧ ∀ ty, (Builtin.len_ #[23] ty #[.map a]).run Tryd.prog W = .ok (.int .i64 (ml : Int)) W := by
  obtain ⟨fu, hf⟩ := h
  rcases Go.WideElems.open_map Tryd.underlying23 hf with ⟨hcs, _⟩ | ⟨b, es, clock, n, rfl, hcs, hb, _, F, _⟩
  · simp [Value.cells] at hcs
    subst hcs
    exact ⟨_, 0, marks_nil W, fun ty => Maps.len_nil Tryd.underlying23 ty⟩
  · simp [Value.cells] at hcs
    subst hcs
    have q := World.ownsMap_of_fit (R := plainElem (H := H) Tryd.prog 3) hb F (fun x _ z hz => elemAt_plainElem_int Tryd.underlying3 hz)
    exact ⟨_, _, marks_of q, fun ty => q.len Tryd.underlying23 ty⟩
end Go.Proofs.YtgkmjkjcdjkffaaDoor.Mo
