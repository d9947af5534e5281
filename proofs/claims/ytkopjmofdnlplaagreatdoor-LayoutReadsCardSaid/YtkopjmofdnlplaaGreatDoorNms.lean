/-
  PROVED HERE: what a look at a map of names' numbers answers, in each later world. Conditions: as each theorem states.
-/
import Derived.Test.YtkopjmofdnlplaaGreatDoorOwn
import Derived.Test.YtkopjmofdnlplaaGreatDoorRows
import Derived.Maps.OwnSet
import Derived.StringKeys
namespace Go.Proofs.YtkopjmofdnlplaaGreatDoor.Tm
open Go.RowKit Go.Maps Go.ChangeShapes
/-- Each look at a name answers f, in this world and in each later one. -/
def Nms (W : World) (mo : Option Nat) (f : ByteArray → Int × Bool) : Prop :=
  ∀ W', Below W.heap.size W W' → ∀ s : ByteArray, s.size ≤ 1000 → (Instr.lookup 126 (.map mo) (.string s) true).run Tryz.prog W' = .ok (.tuple #[.int .i64 (f s).1, .bool (f s).2]) W' ∧ -9223372036854775808 ≤ (f s).1 ∧ (f s).1 ≤ 9223372036854775807
theorem Nms.below {W W1 : World} {mo : Option Nat} {f : ByteArray → Int × Bool} (h : Nms W mo f) (hb : Below W.heap.size W W1) : Nms W1 mo f := fun W' hW s hs => h W' (hb.trans (hW.mono hb.size)) s hs
theorem keyedN : Keyed Tryz.prog 9 := string_keyed Tryz.underlying9
theorem keyS (s : ByteArray) (h : s.size ≤ 1000) : keyOf Tryz.prog 9 (.string s) = some (.string s.data.toList) :=
  Go.WideMaps.keyOf_string_mk Tryz.underlying9 (by unfold maxLen; omega)
theorem zeroIN (w : World) : (zeroValue 3).run Tryz.prog w = .ok (.int .i64 0) w := by kernel_rfl
theorem nms_nil (W : World) : Nms W none (fun _ => (0, false)) := fun W' _ s hs =>
  ⟨Maps.look_nil true keyedN Tryz.underlying126 (zeroIN W') (keyS s hs), (by decide : (-9223372036854775808 : Int) ≤ 0), (by decide : (0 : Int) ≤ 9223372036854775807)⟩
variable {H : Type}
def atN (D : DataW H) (s : ByteArray) : Int := match D.atKey (.string s.data.toList) (.lit (.int .i64 0)) with | .lit (.int _ a) => a | _ => 0
theorem nms_of {W : World} {b n : Nat} {D : DataW H} (h : W.ownsMap Tryz.prog 9 (plainElem Tryz.prog 3) b n D) : Nms W (some b) (fun s => (atN D s, Maps.has D (.string s.data.toList))) := fun W' hb s hs => by
  have h' : W'.ownsMap Tryz.prog 9 (plainElem Tryz.prog 3) b n D := by
    obtain ⟨es, clock, he, r⟩ := h
    have hlt : b < W.heap.size := by
      rcases Nat.lt_or_ge b W.heap.size with h | h
      · exact h
      · rw [Array.getElem?_eq_none h] at he; cases he
    exact ⟨es, clock, by rw [hb.block b hlt]; exact he, r⟩
  obtain ⟨v, ps, e, hv⟩ := h'.look_ok keyedN Tryz.underlying126 (zeroIN W') (plainElem_int Tryz.underlying3 (by decide)) (keyS s hs)
  obtain ⟨a, rfl, ha, hw⟩ := plainElem_int_inv Tryz.underlying3 hv
  have ha' := congrArg Prod.fst ha
  simp only at ha'
  have hat : atN D s = a := by unfold atN; rw [ha']
  simp only
  rw [hat]
  refine ⟨e, ?_⟩
  exact bounds_i64 hw
/-- What the reading of a map that came in gives. -/
theorem nms_of_trod {enc : TypeId × Value → H} {W : World} {sp : Nat → Bool} {held : Bool} {a : Option Nat} {d : DataW H} {p : List MemPlace} (h : DataW.Trod enc Tryz.prog W 0 sp held 126 (.map a) d p) :
    ∃ (f : ByteArray → Int × Bool) (ml : Nat), Nms W a f ∧ ∀ ty, (Builtin.len_ #[126] ty #[.map a]).run Tryz.prog W = .ok (.int .i64 (ml : Int)) W := by
  obtain ⟨fu, hf⟩ := h
  rcases Go.WideElems.open_map Tryz.underlying126 hf with ⟨hcs, _⟩ | ⟨b, es, clock, n, rfl, hcs, hb, _, F, _⟩
  · simp [Value.cells] at hcs
    subst hcs
    exact ⟨_, 0, nms_nil W, fun ty => Maps.len_nil Tryz.underlying126 ty⟩
  · simp [Value.cells] at hcs
    subst hcs
    have q := World.ownsMap_of_fit (R := plainElem (H := H) Tryz.prog 3) hb F (fun x _ z hz => elemAt_plainElem_int Tryz.underlying3 hz)
    exact ⟨_, _, nms_of q, fun ty => q.len Tryz.underlying126 ty⟩
end Go.Proofs.YtkopjmofdnlplaaGreatDoor.Tm
