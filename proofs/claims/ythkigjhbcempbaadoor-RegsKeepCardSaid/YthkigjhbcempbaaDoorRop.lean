/-
  PROVED HERE: lists of the laws' RegOp, as they came in. Conditions: as each theorem states.
-/
import Derived.Test.YthkigjhbcempbaaDoorRows
import Derived.Test.YthkigjhbcempbaaDoorOwn
import Derived.Deep.Slices
import Derived.Deep.Fields
import Derived.OpenShut
namespace Go.Proofs.YthkigjhbcempbaaDoor
open Go.RowKit
structure Rop where
  what : Int
  name : Nat
  text : ByteArray
/-- The slice v shows l. -/
def Rops (w : World) (v : Value) (l : List Rop) : Prop :=
  ∃ a cap, v = .slice a l.length cap ∧ ∀ j (h : j < l.length), ∃ ad, a = some ad ∧ w.cell? (ad.add (j * 3)) = some (.int .i64 l[j].what) ∧ w.cell? (ad.add (j * 3 + 1)) = some (.int .u8 l[j].name) ∧ w.cell? (ad.add (j * 3 + 2)) = some (.string l[j].text) ∧ l[j].name < 256
theorem Rops.below {w w' : World} {v : Value} {l : List Rop} (h : Rops w v l) (hb : Below w.heap.size w w') : Rops w' v l := by
  obtain ⟨a, cap, e, hc⟩ := h
  refine ⟨a, cap, e, fun j hj => ?_⟩
  obtain ⟨ad, h1, h2, h3, h4, h5⟩ := hc j hj
  exact ⟨ad, h1, (hb.cell (p := ad.add (j * 3)) (World.block_lt_of_cell? w _ h2)).trans h2, (hb.cell (p := ad.add (j * 3 + 1)) (World.block_lt_of_cell? w _ h3)).trans h3, (hb.cell (p := ad.add (j * 3 + 2)) (World.block_lt_of_cell? w _ h4)).trans h4, h5⟩
theorem radd_next (ad : Addr) (m i : Nat) : ad.add (m + (i + 1)) = ⟨(ad.add m).block, (ad.add m).off + (i + 1), none⟩ := by
  unfold Addr.add
  by_cases h : m = 0
  · subst h; simp
  · simp [h, Nat.add_assoc]
/-- The three cells, as a walk reckons their addresses. -/
theorem Rops.at_ {w : World} {a : Option Addr} {n cap : Nat} {l : List Rop} (h : Rops w (.slice a n cap) l) (j : Nat) (hj : j < l.length) : ∃ ad, a = some ad ∧ w.cell? (ad.add (j * 3)) = some (.int .i64 l[j].what) ∧ w.cell? ⟨(ad.add (j * 3)).block, (ad.add (j * 3)).off + 1, none⟩ = some (.int .u8 l[j].name) ∧ w.cell? ⟨(ad.add (j * 3)).block, (ad.add (j * 3)).off + 2, none⟩ = some (.string l[j].text) ∧ l[j].name < 256 := by
  obtain ⟨a', cap', e, hc⟩ := h
  simp only [Value.slice.injEq] at e
  obtain ⟨rfl, _, _⟩ := e
  obtain ⟨ad, h1, h2, h3, h4, h5⟩ := hc j hj
  exact ⟨ad, h1, h2, by rw [← radd_next ad (j * 3) 0]; exact h3, by rw [← radd_next ad (j * 3) 1]; exact h4, h5⟩
section
open Go.WideShapes Go.ChangeShapes Go.Deep
variable {H : Type} {enc : TypeId × Value → H}
theorem rops_of_trod {W : World} {sp : Nat → Bool} {held : Bool} {a : Option Addr} {len cap : Nat} {d : DataW H} {p : List MemPlace}
    (h : DataW.Trod enc Tryd.prog W 0 sp held 22 (.slice a len cap) d p) : ∃ l : List Rop, l.length = len ∧ Rops W (.slice a len cap) l := by
  obtain ⟨f, hf⟩ := h
  have hC : Tryd.prog.cellsOf 30 = 3 := by kernel_rfl
  rcases open_slice Tryd.underlying22 hf with ⟨hcs, _⟩ | ⟨ad, len', cap', m, n, D, Pl, hcs, _, hl, _, hm, _, hi⟩
  · simp [Value.cells] at hcs
    obtain ⟨rfl, rfl, rfl⟩ := hcs
    exact ⟨[], rfl, ⟨none, 0, rfl, fun j hj => absurd hj (Nat.not_lt_zero j)⟩⟩
  · simp [Value.cells] at hcs
    obtain ⟨rfl, rfl, rfl⟩ := hcs
    have hml : len ≤ m := by rw [hm]; split <;> omega
    have one : ∀ i, i < len → ∃ e : Rop, W.cell? (ad.add (i * 3)) = some (.int .i64 e.what) ∧ W.cell? (ad.add (i * 3 + 1)) = some (.int .u8 e.name) ∧ W.cell? (ad.add (i * 3 + 2)) = some (.string e.text) ∧ e.name < 256 := by
      intro i hil
      obtain ⟨cs', hc, ht⟩ := hi i (by omega)
      rw [hC] at hc
      obtain ⟨_, hcl, hat⟩ := World.cells?_some hc
      obtain ⟨ys, n', _, _, _, hyl, hg⟩ := DataW.trod_struct Tryd.underlying30 ht
      rcases cs' with _ | ⟨c0, _ | ⟨c1, _ | ⟨c2, _ | ⟨_, _⟩⟩⟩⟩ <;> simp only [List.length_nil, List.length_cons] at hcl <;> try omega
      rcases ys with _ | ⟨y0, _ | ⟨y1, _ | ⟨y2, _ | ⟨_, _⟩⟩⟩⟩ <;> simp only [List.length_nil, List.length_cons] at hyl <;> try (simp at hyl)
      have k0 : Tryd.prog.cellsOf 3 = 1 := by kernel_rfl
      have k1 : Tryd.prog.cellsOf 5 = 1 := by kernel_rfl
      have k2 : Tryd.prog.cellsOf 9 = 1 := by kernel_rfl
      have g0 : DataW.trod enc Tryd.prog W 0 sp held n' 3 (([c0, c1, c2].drop 0).take (Tryd.prog.cellsOf 3)) = some y0 := hg 0 _ rfl
      have g1 : DataW.trod enc Tryd.prog W 0 sp held n' 5 (([c0, c1, c2].drop 1).take (Tryd.prog.cellsOf 5)) = some y1 := hg 1 _ rfl
      have g2 : DataW.trod enc Tryd.prog W 0 sp held n' 9 (([c0, c1, c2].drop 2).take (Tryd.prog.cellsOf 9)) = some y2 := hg 2 _ rfl
      rw [k0] at g0
      rw [k1] at g1
      rw [k2] at g2
      obtain ⟨x0, e0, _, b0⟩ := DataW.trod_int Tryd.underlying3 g0
      obtain ⟨x1, e1, _, b1⟩ := DataW.trod_int Tryd.underlying5 g1
      obtain ⟨x2, e2, _, _⟩ := DataW.trod_string Tryd.underlying9 g2
      simp at e0 e1 e2
      have a0 := hat 0 (by decide)
      have a1 := hat 1 (by decide)
      have a2 := hat 2 (by decide)
      rw [add_add] at a0 a1 a2
      have hb := bounds_u8 b1
      refine ⟨⟨x0, x1.toNat, x2⟩, ?_, ?_, ?_, ?_⟩
      · rw [Nat.add_zero] at a0; rw [a0]; simp [e0]
      · rw [a1]; simp [e1]; omega
      · rw [a2]; simp [e2]
      · show x1.toNat < 256
        omega
    obtain ⟨F, hF⟩ : ∃ F : Nat → Rop, ∀ i, i < len → W.cell? (ad.add (i * 3)) = some (.int .i64 (F i).what) ∧ W.cell? (ad.add (i * 3 + 1)) = some (.int .u8 (F i).name) ∧ W.cell? (ad.add (i * 3 + 2)) = some (.string (F i).text) ∧ (F i).name < 256 :=
      ⟨fun i => if h : i < len then (one i h).choose else ⟨0, 0, ⟨#[]⟩⟩, fun i h => by simp only [dif_pos h]; exact (one i h).choose_spec⟩
    refine ⟨(List.range len).map F, by simp, ⟨some ad, cap, by simp, fun j hj => ⟨ad, rfl, ?_⟩⟩⟩
    have hj' : j < len := by simpa using hj
    obtain ⟨h0, h1, h2, h3⟩ := hF j hj'
    simp only [List.getElem_map, List.getElem_range]
    exact ⟨h0, h1, h2, h3⟩
end
end Go.Proofs.YthkigjhbcempbaaDoor
