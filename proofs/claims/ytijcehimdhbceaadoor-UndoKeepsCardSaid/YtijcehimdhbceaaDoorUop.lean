/-
  PROVED HERE: lists of the laws' UndoOp, as they came in. Conditions: as each theorem states.
-/
import Derived.Test.YtijcehimdhbceaaDoorRows
import Derived.Test.YtijcehimdhbceaaDoorOwn
import Derived.Deep.Slices
import Derived.Deep.Fields
namespace Go.Proofs.YtijcehimdhbceaaDoor
open Go.RowKit
structure Uop where
  what : Int
  n : Int
/-- The slice v shows l. -/
def Uops (w : World) (v : Value) (l : List Uop) : Prop :=
  ∃ a cap, v = .slice a l.length cap ∧ ∀ j (h : j < l.length), ∃ ad, a = some ad ∧ w.cell? (ad.add (j * 2)) = some (.int .i64 l[j].what) ∧ w.cell? (ad.add (j * 2 + 1)) = some (.int .i64 l[j].n)
theorem Uops.below {w w' : World} {v : Value} {l : List Uop} (h : Uops w v l) (hb : Below w.heap.size w w') : Uops w' v l := by
  obtain ⟨a, cap, e, hc⟩ := h
  refine ⟨a, cap, e, fun j hj => ?_⟩
  obtain ⟨ad, h1, h2, h3⟩ := hc j hj
  exact ⟨ad, h1, (hb.cell (p := ad.add (j * 2)) (World.block_lt_of_cell? w _ h2)).trans h2, (hb.cell (p := ad.add (j * 2 + 1)) (World.block_lt_of_cell? w _ h3)).trans h3⟩
theorem uadd_next (ad : Addr) (m i : Nat) : ad.add (m + (i + 1)) = ⟨(ad.add m).block, (ad.add m).off + (i + 1), none⟩ := by
  unfold Addr.add
  by_cases h : m = 0
  · subst h; simp
  · simp [h, Nat.add_assoc]
/-- The two cells, as a walk reckons their addresses. -/
theorem Uops.at_ {w : World} {a : Option Addr} {n cap : Nat} {l : List Uop} (h : Uops w (.slice a n cap) l) (j : Nat) (hj : j < l.length) : ∃ ad, a = some ad ∧ w.cell? (ad.add (j * 2)) = some (.int .i64 l[j].what) ∧ w.cell? ⟨(ad.add (j * 2)).block, (ad.add (j * 2)).off + 1, none⟩ = some (.int .i64 l[j].n) := by
  obtain ⟨a', cap', e, hc⟩ := h
  simp only [Value.slice.injEq] at e
  obtain ⟨rfl, _, _⟩ := e
  obtain ⟨ad, h1, h2, h3⟩ := hc j hj
  exact ⟨ad, h1, h2, by rw [← uadd_next ad (j * 2) 0]; exact h3⟩
section
open Go.WideShapes Go.ChangeShapes Go.Deep
variable {H : Type} {enc : TypeId × Value → H}
theorem uops_of_trod {W : World} {sp : Nat → Bool} {held : Bool} {a : Option Addr} {len cap : Nat} {d : DataW H} {p : List MemPlace}
    (h : DataW.Trod enc Tryd.prog W 0 sp held 36 (.slice a len cap) d p) : ∃ l : List Uop, l.length = len ∧ Uops W (.slice a len cap) l := by
  obtain ⟨f, hf⟩ := h
  have hC : Tryd.prog.cellsOf 42 = 2 := by kernel_rfl
  rcases open_slice Tryd.underlying36 hf with ⟨hcs, _⟩ | ⟨ad, len', cap', m, n, D, Pl, hcs, _, hl, _, hm, _, hi⟩
  · simp [Value.cells] at hcs
    obtain ⟨rfl, rfl, rfl⟩ := hcs
    exact ⟨[], rfl, ⟨none, 0, rfl, fun j hj => absurd hj (Nat.not_lt_zero j)⟩⟩
  · simp [Value.cells] at hcs
    obtain ⟨rfl, rfl, rfl⟩ := hcs
    have hml : len ≤ m := by rw [hm]; split <;> omega
    have one : ∀ i, i < len → ∃ e : Uop, W.cell? (ad.add (i * 2)) = some (.int .i64 e.what) ∧ W.cell? (ad.add (i * 2 + 1)) = some (.int .i64 e.n) := by
      intro i hil
      obtain ⟨cs', hc, ht⟩ := hi i (by omega)
      rw [hC] at hc
      obtain ⟨_, hcl, hat⟩ := World.cells?_some hc
      obtain ⟨ys, n', _, _, _, hyl, hg⟩ := DataW.trod_struct Tryd.underlying42 ht
      rcases cs' with _ | ⟨c0, _ | ⟨c1, _ | ⟨_, _⟩⟩⟩ <;> simp only [List.length_nil, List.length_cons] at hcl <;> try omega
      rcases ys with _ | ⟨y0, _ | ⟨y1, _ | ⟨_, _⟩⟩⟩ <;> simp only [List.length_nil, List.length_cons] at hyl <;> try (simp at hyl)
      have k0 : Tryd.prog.cellsOf 3 = 1 := by kernel_rfl
      have g0 : DataW.trod enc Tryd.prog W 0 sp held n' 3 (([c0, c1].drop 0).take (Tryd.prog.cellsOf 3)) = some y0 := hg 0 _ rfl
      have g1 : DataW.trod enc Tryd.prog W 0 sp held n' 3 (([c0, c1].drop 1).take (Tryd.prog.cellsOf 3)) = some y1 := hg 1 _ rfl
      rw [k0] at g0 g1
      obtain ⟨x0, e0, _, b0⟩ := DataW.trod_int Tryd.underlying3 g0
      obtain ⟨x1, e1, _, b1⟩ := DataW.trod_int Tryd.underlying3 g1
      simp at e0 e1
      have a0 := hat 0 (by decide)
      have a1 := hat 1 (by decide)
      rw [add_add] at a0 a1
      refine ⟨⟨x0, x1⟩, ?_, ?_⟩
      · rw [Nat.add_zero] at a0; rw [a0]; simp [e0]
      · rw [a1]; simp [e1]
    obtain ⟨F, hF⟩ : ∃ F : Nat → Uop, ∀ i, i < len → W.cell? (ad.add (i * 2)) = some (.int .i64 (F i).what) ∧ W.cell? (ad.add (i * 2 + 1)) = some (.int .i64 (F i).n) :=
      ⟨fun i => if h : i < len then (one i h).choose else ⟨0, 0⟩, fun i h => by simp only [dif_pos h]; exact (one i h).choose_spec⟩
    refine ⟨(List.range len).map F, by simp, ⟨some ad, cap, by simp, fun j hj => ⟨ad, rfl, ?_⟩⟩⟩
    have hj' : j < len := by simpa using hj
    obtain ⟨h0, h1⟩ := hF j hj'
    simp only [List.getElem_map, List.getElem_range]
    exact ⟨h0, h1⟩
end
end Go.Proofs.YtijcehimdhbceaaDoor
